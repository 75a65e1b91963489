/- FramePuts: for every kind and every string the law answers true, and nothing that was there has turned. No condition. -/
import Derived.Test.YtabdpebokpjljaaF7
namespace Go.Proofs.Ytabdpebokpjljaa
open Go.RowKit

set_option maxRecDepth 100000 in
set_option maxHeartbeats 1000000 in
theorem puts_short (k : Int) (hk : -9223372036854775808 ≤ k ∧ k ≤ 9223372036854775807) (s : ByteArray) (w : World) (h3 : s.size ≤ 20000) : Calls Try.prog 12 #[.int .i64 k, .string s] w (Yes w) := by
    have h3' : (s.size : Int) ≤ 20000 := by omega
    have hdl : s.data.toList.length = s.size := by rw [Array.length_toList]; rfl
    have hST : s.toList = s.data.toList := ByteArray.toList_eq s
    have P1 := hid (fun (W : World) (ao : Option Addr) (n c : Nat) (h : Bs W ao n c s.data.toList) => fput_any k ao n c s.data.toList W h (by omega) hk)
    have P2 := hid (fun (W : World) (ao : Option Addr) (n c : Nat) (h : Bs W ao n c s.data.toList) => rfput_any k ao n c s.data.toList W h (by omega) hk)
    clear hdl
    generalize fputS k s.data.toList = r at *
    generalize hL : s.data.toList = L at *
    have HLL := hid hL
    clear hL
    obtain ⟨r1, r2⟩ := r
    have tok1 : True := trivial
    clear hk
    go_enter Try.func12, Try.ntmps12
    go_wp2_with (first
      | (have _t := tok1; refine wp_bytes rfl _ rfl s rfl (by unfold maxLen; omega) ?_; intro c1 w1 hb1 hf1 hc1 hz1; rw [HLL.out] at hb1; clear _t tok1)
      | (refine wp_bytes rfl _ rfl s rfl (by unfold maxLen; omega) ?_; intro c3 w3 hb3 hf3 hc3 hz3; rw [HLL.out] at hb3)
      | (go_at_call 55; refine (P1.out _ _ _ _ hb1).mono ?_; rintro e w2 ⟨a2, c2, rfl, hb2, hc2, hy2⟩)
      | (go_at_call 56; refine (P2.out _ _ _ _ hb3).mono ?_; rintro e w4 ⟨a4, c4, rfl, hb4, hc4, hy4⟩; have k4 := hc3.step hc4 (by simp); have k5 := hc2.step k4 (by simp); have q1 := run_str (hb2.keep k4 (by simp)); have q2 := run_str hb4; have q3 := run_str (hb1.keep k5 (by simp)))
      | (go_at_call 23; refine (works10 _).mono ?_; rintro e w7 ⟨rfl, hbel⟩))
    go_ret
    exact ⟨rfl, (hc1.step k5 (by simp)).then_below hbel⟩

set_option maxRecDepth 100000 in
set_option maxHeartbeats 1000000 in
theorem puts_long (k : Int) (hk : -9223372036854775808 ≤ k ∧ k ≤ 9223372036854775807) (s S : ByteArray) (hS : s.extract 0 20000 = S) (w : World) (hs : s.size ≤ 9223372036854775807) (h3 : 20000 < s.size) (hSS : S.size = 20000) : Calls Try.prog 12 #[.int .i64 k, .string s] w (Yes w) := by
    have h3' : (20000 : Int) < (s.size : Int) := by omega
    have hdl : S.data.toList.length = S.size := by rw [Array.length_toList]; rfl
    have hST : S.toList = S.data.toList := ByteArray.toList_eq S
    have P1 := hid (fun (W : World) (ao : Option Addr) (n c : Nat) (h : Bs W ao n c S.data.toList) => fput_any k ao n c S.data.toList W h (by omega) hk)
    have P2 := hid (fun (W : World) (ao : Option Addr) (n c : Nat) (h : Bs W ao n c S.data.toList) => rfput_any k ao n c S.data.toList W h (by omega) hk)
    clear hdl
    generalize fputS k S.data.toList = r at *
    generalize hL : S.data.toList = L at *
    have HLL := hid hL
    clear hL
    obtain ⟨r1, r2⟩ := r
    have tok1 : True := trivial
    have HSS := hid hSS
    clear hk hSS
    go_enter Try.func12, Try.ntmps12
    go_wp2_with (first
      | (have _t := tok1; refine wp_bytes rfl _ rfl S rfl (by have := HSS.out; unfold maxLen; omega) ?_; intro c1 w1 hb1 hf1 hc1 hz1; rw [HLL.out] at hb1; clear _t tok1)
      | (refine wp_bytes rfl _ rfl S rfl (by have := HSS.out; unfold maxLen; omega) ?_; intro c3 w3 hb3 hf3 hc3 hz3; rw [HLL.out] at hb3)
      | (go_at_call 55; refine (P1.out _ _ _ _ hb1).mono ?_; rintro e w2 ⟨a2, c2, rfl, hb2, hc2, hy2⟩)
      | (go_at_call 56; refine (P2.out _ _ _ _ hb3).mono ?_; rintro e w4 ⟨a4, c4, rfl, hb4, hc4, hy4⟩; have k4 := hc3.step hc4 (by simp); have k5 := hc2.step k4 (by simp); have q1 := run_str (hb2.keep k4 (by simp)); have q2 := run_str hb4; have q3 := run_str (hb1.keep k5 (by simp)))
      | (go_at_call 23; refine (works10 _).mono ?_; rintro e w7 ⟨rfl, hbel⟩))
    go_ret
    exact ⟨rfl, (hc1.step k5 (by simp)).then_below hbel⟩

theorem puts_walk (a0 : Int) (a1 : ByteArray) (w0 : (Lit.int .i64 a0).wf = true) (w1 : a1.size ≤ maxLen) (w : World) : Calls Try.prog 12 #[.int .i64 a0, .string a1] w (Yes w) := by
  have hk := wf_i64 w0
  unfold maxLen at w1
  by_cases h : a1.size ≤ 20000
  · exact puts_short a0 hk a1 w h
  · exact puts_long a0 hk a1 _ rfl w (by omega) (by omega) (by rw [ByteArray.size_extract]; omega)
end Go.Proofs.Ytabdpebokpjljaa
