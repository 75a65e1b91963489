/- BytesLong: for every length and every byte the law answers true, and nothing that was there has turned. No condition. -/
import Derived.Test.YtabdpebokpjljaaR1
namespace Go.Proofs.Ytabdpebokpjljaa
open Go.RowKit

theorem replicate_set (c : UInt8) (k m : Nat) (h : k < m) : (List.replicate k c ++ List.replicate (m - k) 0).set k c = List.replicate (k + 1) c ++ List.replicate (m - (k + 1)) 0 := by
  have e : m - k = (m - (k + 1)) + 1 := by omega
  rw [List.set_append_right _ _ (by simp), e, List.replicate_succ, List.replicate_succ']
  simp

set_option maxHeartbeats 1000000 in
theorem long_nat (n : Nat) (c : UInt8) (w : World) (hn : n < 4294967296) : Calls Try.prog 8 #[.int .u32 n, .int .u8 c.toNat] w (Yes w) := by
  obtain ⟨m, hm⟩ : ∃ m, m = n % 70000 := ⟨_, rfl⟩
  have hm7 : m < 70000 := by omega
  have hn1 : (n : Int) ≤ 4294967295 := by omega
  have hmi : (n : Int) % 70000 = (m : Int) := by omega
  have HM := hid hmi
  clear hm hn hmi
  go_enter Try.func8, Try.ntmps8
  go_wp2_with (at_make; refine wp_make rfl _ _ rfl m _ _ _ _ rfl rfl HM.out HM.out (by omega) ?_; intro w1 hown hchg)
  clear hn1
  go_loopw [6] (fun i wr => ∃ k, k ≤ m ∧ i = .int .i64 k ∧ Ow wr w.heap.size m (List.replicate k c ++ List.replicate (m - k) 0) ∧ Chg w wr [])
     (fun i _ => m - (intOf i).toNat)
  case atStart => exact ⟨0, by omega, rfl, by simpa using hown, hchg⟩
  case round =>
    obtain ⟨k, hk, rfl, hown1, hC1⟩ := hrel
    clear hown hchg
    by_cases hlt : k < m
    · have hj : k < (List.replicate k c ++ List.replicate (m - k) 0).length := by simp; omega
      obtain ⟨bb, hc⟩ : ∃ bb, wr.cell? ⟨w.heap.size, k, none⟩ = some (bv bb) := ⟨_, hown1.cellAt hj⟩
      have hf := Own.frozenAt hown1 k
      have hset := hown1.set k (.int .u8 c.toNat) c rfl
      rw [replicate_set c k m hlt] at hset
      have HS := hid hset
      clear hset hj
      unfold bv at hc
      go_wp2
      go_roundw
      case rel => exact ⟨k + 1, by omega, by go_num, HS.out, hC1.setCell (by simp) _⟩
      case measure => simp [intOf]; omega
    · obtain rfl : k = m := by omega
      rw [Nat.sub_self, List.replicate_zero, List.append_nil] at hown1
      have hlen : (List.replicate k c).length = k := List.length_replicate ..
      generalize hL : List.replicate k c = L at *
      have HLen := hid hlen
      clear hL
      have hbs := hown1.bs
      rw [hlen] at hbs
      clear hlen
      have hnil := fun W : World => run_str (Bs.nil W)
      have hstr := run_str hbs
      by_cases hlong : 65535 < k
      · have p1 : ∀ W : World, Calls Try.prog 30 #[.slice none 0 0, .string (str L)] W fun e w' => e = .returned (.tuple #[.slice none 0 0, .int .i64 3]) ∧ W = w' := fun W =>
          putText_long _ _ W (by rw [str_size, HLen.out]; exact hlong) (by rw [str_size, HLen.out]; omega)
        have p2 : ∀ W : World, Calls Try.prog 31 #[.string (str L)] W fun e w' => e = .returned (.tuple #[.slice none 0 0, .int .i64 3]) ∧ W = w' := fun W =>
          rtext_long _ W (by rw [str_size, HLen.out]; exact hlong) (by rw [str_size, HLen.out]; omega)
        have P1 := hid p1
        have P2 := hid p2
        clear p1 p2
        go_wp2_with (first
          | (go_at_call 30; refine (P1.out _).mono ?_; rintro e w2 ⟨rfl, rfl⟩)
          | (go_at_call 31; refine (P2.out _).mono ?_; rintro e w2 ⟨rfl, rfl⟩)
          | (go_at_call 33; refine (works04 _).mono ?_; rintro e w7 ⟨rfl, hbel⟩))
        go_ret
        exact ⟨rfl, hC1.then_below hbel⟩
      · have p1 : ∀ W : World, Calls Try.prog 30 #[.slice none 0 0, .string (str L)] W (NewRowE W (encT L) 0) := fun W => by
          have := putText_ok none 0 0 [] (str L) W (Bs.nil _) (by simp) (by rw [str_size, HLen.out]; omega)
          rwa [str_data] at this
        have p2 : ∀ W : World, Calls Try.prog 31 #[.string (str L)] W (NewRowE W (encT L) 0) := fun W => by
          have := rtext_ok (str L) W (by rw [str_size, HLen.out]; omega)
          rwa [str_data] at this
        have P1 := hid p1
        have P2 := hid p2
        clear p1 p2 hnil
        generalize encT L = l2 at *
        go_wp2_with (first
          | (go_at_call 30; refine (P1.out _).mono ?_; rintro e w2 ⟨g2, c2, rfl, hown2, hchg2, hge2⟩; clear hstr)
          | (go_at_call 31; refine (P2.out _).mono ?_; rintro e w3 ⟨g3, c3, rfl, hown3, hchg3, hge3⟩; have hs2 := run_str (hown2.keep hchg3 (by simp)).bs; have hs3 := run_str hown3.bs)
          | (go_at_call 33; refine (works04 _).mono ?_; rintro e w7 ⟨rfl, hbel⟩))
        go_ret
        exact ⟨rfl, ((hC1.step hchg2 (by simp)).step hchg3 (by simp)).then_below hbel⟩

theorem long_walk (a0 : Int) (a1 : Int) (w0 : (Lit.int .u32 a0).wf = true) (w1 : (Lit.int .u8 a1).wf = true) (w : World) : Calls Try.prog 8 #[.int .u32 a0, .int .u8 a1] w (Yes w) := by
  obtain ⟨n, rfl, hn⟩ := wf_u32 w0
  obtain ⟨c, rfl⟩ := wf_u8 w1
  exact long_nat n c w hn
end Go.Proofs.Ytabdpebokpjljaa
