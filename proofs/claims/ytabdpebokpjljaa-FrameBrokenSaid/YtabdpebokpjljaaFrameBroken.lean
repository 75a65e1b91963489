/- FrameBroken: for every string and every length the law answers true, and nothing that was there has turned. No condition. -/
import Derived.Test.YtabdpebokpjljaaF6
namespace Go.Proofs.Ytabdpebokpjljaa
open Go.RowKit

theorem brk_cells (n : Nat) (h : n < 4294967296) : #[Value.int .u8 ((n : Int) / 16777216), Value.int .u8 ((n : Int) / 65536 % 256), Value.int .u8 ((n : Int) / 256 % 256), Value.int .u8 ((n : Int) % 256)] = ((enc 4 n).map bv).toArray := by
  simp only [enc, bv, List.map_cons, List.map_nil, UInt8.toNat_ofNat']
  have e1 : (256 : Nat) ^ 3 = 16777216 := by decide
  have e2 : (256 : Nat) ^ 2 = 65536 := by decide
  have e3 : (256 : Nat) ^ 1 = 256 := by decide
  have e4 : (256 : Nat) ^ 0 = 1 := by decide
  rw [e1, e2, e3, e4]
  have f1 : (n : Int) / 16777216 = ((n / 16777216 % 2 ^ 8 : Nat) : Int) := by omega
  have f2 : (n : Int) / 65536 % 256 = ((n / 65536 % 2 ^ 8 : Nat) : Int) := by omega
  have f3 : (n : Int) / 256 % 256 = ((n / 256 % 2 ^ 8 : Nat) : Int) := by omega
  have f4 : (n : Int) % 256 = ((n / 1 % 2 ^ 8 : Nat) : Int) := by omega
  rw [f1, f2, f3, f4]

/-- The contracts of the law's calls, at the length n. -/
structure Brk (w : World) (n : Nat) (l4 : List UInt8) (C : Array Value) : Prop where
  push : ∀ (W : World) (g m : Nat), m = W.heap.size → RdIn w W g [] [] false → Calls Try.prog 21 #[.pointer (some ⟨g, 0, none⟩), .slice (some ⟨m, 0, none⟩) 4 4] (W.alloc (.cells C 5)) (RdOut w (W.alloc (.cells C 5)) g [] (.int .i64 0) l4 false)
  next : ∀ (W : World) (g : Nat) (xs : List Nat), RdIn w W g xs l4 false → Calls Try.prog 25 #[.pointer (some ⟨g, 0, none⟩)] W (NextOut w W g xs ((0, [], false, 4), l4, true))
  push2 : ∀ (W : World) (g : Nat) (xs : List Nat) (ao : Option Addr) (k c : Nat) (b : List UInt8), b.length ≤ 300 → RdIn w W g xs l4 true → Bs W ao k c b → Calls Try.prog 21 #[.pointer (some ⟨g, 0, none⟩), .slice ao k c] W (RdOut w W g xs (.int .i64 4) l4 true)
  next2 : ∀ (W : World) (g : Nat) (xs : List Nat), RdIn w W g xs l4 true → Calls Try.prog 25 #[.pointer (some ⟨g, 0, none⟩)] W (NextOut w W g xs ((0, [], false, 4), l4, true))
  broken : ∀ (W : World) (g : Nat) (xs : List Nat), RdIn w W g xs l4 true → Calls Try.prog 27 #[.pointer (some ⟨g, 0, none⟩)] W fun e w' => e = .returned (.bool true) ∧ W = w'
  held : ∀ (W : World) (g : Nat) (xs : List Nat), RdIn w W g xs l4 true → Calls Try.prog 22 #[.pointer (some ⟨g, 0, none⟩)] W fun e w' => e = .returned (.int .i64 4) ∧ W = w'

theorem brk_all (w : World) (n : Nat) (hn : n < 4294967296) (hb : n < 1 ∨ 16385 < n) : Brk w n (enc 4 n) ((enc 4 n).map bv).toArray := by
  have hl : (enc 4 n).length = 4 := enc_length 4 n
  have hbe : be ((enc 4 n).take 4) = n := by
    rw [enc_take_all, be_enc]
    exact Nat.mod_eq_of_lt (by have : (256 : Nat) ^ 4 = 4294967296 := by decide
                               omega)
  have hnx : nextS (enc 4 n) false = ((0, [], false, 4), enc 4 n, true) := by
    unfold nextS
    rw [hbe, if_neg (by decide), if_neg (by omega), if_pos hb]
  have hnx2 : nextS (enc 4 n) true = ((0, [], false, 4), enc 4 n, true) := by simp [nextS]
  refine ⟨fun W g m hm h => ?_, fun W g xs h => ?_, fun W g xs ao k c b hbl h hbs => ?_, fun W g xs h => ?_, fun W g xs h => ?_, fun W g xs h => ?_⟩
  · subst hm
    have hbs := bs_lit W (enc 4 n) (by omega)
    rw [hl] at hbs
    have := push_in w g [] [] false _ 4 4 (enc 4 n) _ (h.alloc _) hbs (by decide) (by omega)
    rw [show pushS [] false (enc 4 n) = (0, enc 4 n, false) from by unfold pushS; rw [if_neg (by decide), if_neg (by rw [hl]; decide)]; rfl] at this
    exact this
  · have := next_in w g xs _ false W h (by omega)
    rwa [hnx] at this
  · have := push_in w g xs _ true ao k c b W h hbs (by omega) (by omega)
    rw [show pushS (enc 4 n) true b = (4, enc 4 n, true) from by simp [pushS]] at this
    exact this
  · have := next_in w g xs _ true W h (by omega)
    rwa [hnx2] at this
  · exact broken_any g xs _ true W h.rd
  · have := held_any g xs _ true W h.rd
    rwa [hl] at this

set_option maxRecDepth 100000 in
set_option maxHeartbeats 1000000 in
theorem brk_big (s : ByteArray) (hs : s.size ≤ 9223372036854775807) (n : Nat) (h1 : n < 4294967296) (h2 : 16385 < n) (w : World) : Calls Try.prog 5 #[.string s, .int .u32 n] w (Yes w) := by
  have HB := hid (brk_all w n (by omega) (by omega))
  have d1 : (n : Int) ≤ 4294967295 := by omega
  have d2 : (16385 : Int) < (n : Int) := by omega
  have HC := hid (brk_cells n h1)
  by_cases h3 : s.size ≤ 300
  · have h3' : (s.size : Int) ≤ 300 := by omega
    have hS : s.size ≤ 300 := by omega
    go_enter Try.func5, Try.ntmps5
    go_wp2_with fail
    refine (new_in _).mono ?_
    rintro e w1 ⟨g, rfl, hr1, hg1⟩
    go_wp2_with fail
    refine ((by rw [HC.out]; exact HB.out.push _ _ _ rfl hr1 : Calls Try.prog 21 _ _ (RdOut w _ g [] (.int .i64 0) (enc 4 n) false))).mono ?_
    rintro e w2 ⟨rfl, xs2, hr2, hc2, hx2⟩
    go_wp2_with fail
    refine (HB.out.next _ _ _ hr2).mono ?_
    rintro e w3 ⟨a3, c3, xs3, rfl, hb3, hy3, hr3, hc3, hx3⟩
    go_wp2_with (first
      | (refine wp_bytes rfl _ rfl s rfl (by unfold maxLen; omega) ?_; intro c4 w4 hb4 hf4 hc4 hsz4)
      | (go_at_call 21; refine (HB.out.push2 _ _ _ _ _ _ _ (by rw [Array.length_toList]; exact hS) (hr3.new hc4) hb4).mono ?_; rintro e w5 ⟨rfl, xs5, hr5, hc5, hx5⟩)
      | (go_at_call 25; refine (HB.out.next2 _ _ _ hr5).mono ?_; rintro e w6 ⟨a6, c6, xs6, rfl, hb6, hy6, hr6, hc6, hx6⟩)
      | (go_at_call 27; refine (HB.out.broken _ _ _ hr6).mono ?_; rintro e w7 ⟨rfl, rfl⟩)
      | (go_at_call 22; refine (HB.out.held _ _ _ hr6).mono ?_; rintro e w7 ⟨rfl, rfl⟩)
      | (go_at_call 23; refine (works10 _).mono ?_; rintro e w7 ⟨rfl, hbel⟩))
    go_ret
    exact ⟨rfl, hr6.chg.then_below hbel⟩
  · have h3' : (300 : Int) < (s.size : Int) := by omega
    go_enter Try.func5, Try.ntmps5
    go_wp2_with fail
    have hS : (s.extract 0 300).size ≤ 300 := by rw [ByteArray.size_extract]; omega
    generalize s.extract 0 300 = S at *
    refine (new_in _).mono ?_
    rintro e w1 ⟨g, rfl, hr1, hg1⟩
    go_wp2_with fail
    refine ((by rw [HC.out]; exact HB.out.push _ _ _ rfl hr1 : Calls Try.prog 21 _ _ (RdOut w _ g [] (.int .i64 0) (enc 4 n) false))).mono ?_
    rintro e w2 ⟨rfl, xs2, hr2, hc2, hx2⟩
    go_wp2_with fail
    refine (HB.out.next _ _ _ hr2).mono ?_
    rintro e w3 ⟨a3, c3, xs3, rfl, hb3, hy3, hr3, hc3, hx3⟩
    go_wp2_with (first
      | (refine wp_bytes rfl _ rfl S rfl (by unfold maxLen; omega) ?_; intro c4 w4 hb4 hf4 hc4 hsz4)
      | (go_at_call 21; refine (HB.out.push2 _ _ _ _ _ _ _ (by rw [Array.length_toList]; exact hS) (hr3.new hc4) hb4).mono ?_; rintro e w5 ⟨rfl, xs5, hr5, hc5, hx5⟩)
      | (go_at_call 25; refine (HB.out.next2 _ _ _ hr5).mono ?_; rintro e w6 ⟨a6, c6, xs6, rfl, hb6, hy6, hr6, hc6, hx6⟩)
      | (go_at_call 27; refine (HB.out.broken _ _ _ hr6).mono ?_; rintro e w7 ⟨rfl, rfl⟩)
      | (go_at_call 22; refine (HB.out.held _ _ _ hr6).mono ?_; rintro e w7 ⟨rfl, rfl⟩)
      | (go_at_call 23; refine (works10 _).mono ?_; rintro e w7 ⟨rfl, hbel⟩))
    go_ret
    exact ⟨rfl, hr6.chg.then_below hbel⟩

set_option maxRecDepth 100000 in
set_option maxHeartbeats 1000000 in
theorem brk_mid (s : ByteArray) (hs : s.size ≤ 9223372036854775807) (n : Nat) (h1 : 1 ≤ n) (h2 : n ≤ 16385) (w : World) : Calls Try.prog 5 #[.string s, .int .u32 n] w (Yes w) := by
  have HB := hid (brk_all w 0 (by omega) (by omega))
  have d1 : (n : Int) ≤ 16385 := by omega
  have d2 : (1 : Int) ≤ (n : Int) := by omega
  by_cases h3 : s.size ≤ 300
  · have h3' : (s.size : Int) ≤ 300 := by omega
    have hS : s.size ≤ 300 := by omega
    go_enter Try.func5, Try.ntmps5
    go_wp2_with fail
    refine (new_in _).mono ?_
    rintro e w1 ⟨g, rfl, hr1, hg1⟩
    go_wp2_with fail
    refine ((HB.out.push _ _ _ rfl hr1 : Calls Try.prog 21 _ _ (RdOut w _ g [] (.int .i64 0) (enc 4 0) false))).mono ?_
    rintro e w2 ⟨rfl, xs2, hr2, hc2, hx2⟩
    go_wp2_with fail
    refine (HB.out.next _ _ _ hr2).mono ?_
    rintro e w3 ⟨a3, c3, xs3, rfl, hb3, hy3, hr3, hc3, hx3⟩
    go_wp2_with (first
      | (refine wp_bytes rfl _ rfl s rfl (by unfold maxLen; omega) ?_; intro c4 w4 hb4 hf4 hc4 hsz4)
      | (go_at_call 21; refine (HB.out.push2 _ _ _ _ _ _ _ (by rw [Array.length_toList]; exact hS) (hr3.new hc4) hb4).mono ?_; rintro e w5 ⟨rfl, xs5, hr5, hc5, hx5⟩)
      | (go_at_call 25; refine (HB.out.next2 _ _ _ hr5).mono ?_; rintro e w6 ⟨a6, c6, xs6, rfl, hb6, hy6, hr6, hc6, hx6⟩)
      | (go_at_call 27; refine (HB.out.broken _ _ _ hr6).mono ?_; rintro e w7 ⟨rfl, rfl⟩)
      | (go_at_call 22; refine (HB.out.held _ _ _ hr6).mono ?_; rintro e w7 ⟨rfl, rfl⟩)
      | (go_at_call 23; refine (works10 _).mono ?_; rintro e w7 ⟨rfl, hbel⟩))
    go_ret
    exact ⟨rfl, hr6.chg.then_below hbel⟩
  · have h3' : (300 : Int) < (s.size : Int) := by omega
    go_enter Try.func5, Try.ntmps5
    go_wp2_with fail
    have hS : (s.extract 0 300).size ≤ 300 := by rw [ByteArray.size_extract]; omega
    generalize s.extract 0 300 = S at *
    refine (new_in _).mono ?_
    rintro e w1 ⟨g, rfl, hr1, hg1⟩
    go_wp2_with fail
    refine ((HB.out.push _ _ _ rfl hr1 : Calls Try.prog 21 _ _ (RdOut w _ g [] (.int .i64 0) (enc 4 0) false))).mono ?_
    rintro e w2 ⟨rfl, xs2, hr2, hc2, hx2⟩
    go_wp2_with fail
    refine (HB.out.next _ _ _ hr2).mono ?_
    rintro e w3 ⟨a3, c3, xs3, rfl, hb3, hy3, hr3, hc3, hx3⟩
    go_wp2_with (first
      | (refine wp_bytes rfl _ rfl S rfl (by unfold maxLen; omega) ?_; intro c4 w4 hb4 hf4 hc4 hsz4)
      | (go_at_call 21; refine (HB.out.push2 _ _ _ _ _ _ _ (by rw [Array.length_toList]; exact hS) (hr3.new hc4) hb4).mono ?_; rintro e w5 ⟨rfl, xs5, hr5, hc5, hx5⟩)
      | (go_at_call 25; refine (HB.out.next2 _ _ _ hr5).mono ?_; rintro e w6 ⟨a6, c6, xs6, rfl, hb6, hy6, hr6, hc6, hx6⟩)
      | (go_at_call 27; refine (HB.out.broken _ _ _ hr6).mono ?_; rintro e w7 ⟨rfl, rfl⟩)
      | (go_at_call 22; refine (HB.out.held _ _ _ hr6).mono ?_; rintro e w7 ⟨rfl, rfl⟩)
      | (go_at_call 23; refine (works10 _).mono ?_; rintro e w7 ⟨rfl, hbel⟩))
    go_ret
    exact ⟨rfl, hr6.chg.then_below hbel⟩

set_option maxRecDepth 100000 in
set_option maxHeartbeats 1000000 in
theorem brk_zero (s : ByteArray) (hs : s.size ≤ 9223372036854775807)  (w : World) : Calls Try.prog 5 #[.string s, .int .u32 0] w (Yes w) := by
  have HB := hid (brk_all w 0 (by omega) (by omega))
  by_cases h3 : s.size ≤ 300
  · have h3' : (s.size : Int) ≤ 300 := by omega
    have hS : s.size ≤ 300 := by omega
    go_enter Try.func5, Try.ntmps5
    go_wp2_with fail
    refine (new_in _).mono ?_
    rintro e w1 ⟨g, rfl, hr1, hg1⟩
    go_wp2_with fail
    refine ((HB.out.push _ _ _ rfl hr1 : Calls Try.prog 21 _ _ (RdOut w _ g [] (.int .i64 0) (enc 4 0) false))).mono ?_
    rintro e w2 ⟨rfl, xs2, hr2, hc2, hx2⟩
    go_wp2_with fail
    refine (HB.out.next _ _ _ hr2).mono ?_
    rintro e w3 ⟨a3, c3, xs3, rfl, hb3, hy3, hr3, hc3, hx3⟩
    go_wp2_with (first
      | (refine wp_bytes rfl _ rfl s rfl (by unfold maxLen; omega) ?_; intro c4 w4 hb4 hf4 hc4 hsz4)
      | (go_at_call 21; refine (HB.out.push2 _ _ _ _ _ _ _ (by rw [Array.length_toList]; exact hS) (hr3.new hc4) hb4).mono ?_; rintro e w5 ⟨rfl, xs5, hr5, hc5, hx5⟩)
      | (go_at_call 25; refine (HB.out.next2 _ _ _ hr5).mono ?_; rintro e w6 ⟨a6, c6, xs6, rfl, hb6, hy6, hr6, hc6, hx6⟩)
      | (go_at_call 27; refine (HB.out.broken _ _ _ hr6).mono ?_; rintro e w7 ⟨rfl, rfl⟩)
      | (go_at_call 22; refine (HB.out.held _ _ _ hr6).mono ?_; rintro e w7 ⟨rfl, rfl⟩)
      | (go_at_call 23; refine (works10 _).mono ?_; rintro e w7 ⟨rfl, hbel⟩))
    go_ret
    exact ⟨rfl, hr6.chg.then_below hbel⟩
  · have h3' : (300 : Int) < (s.size : Int) := by omega
    go_enter Try.func5, Try.ntmps5
    go_wp2_with fail
    have hS : (s.extract 0 300).size ≤ 300 := by rw [ByteArray.size_extract]; omega
    generalize s.extract 0 300 = S at *
    refine (new_in _).mono ?_
    rintro e w1 ⟨g, rfl, hr1, hg1⟩
    go_wp2_with fail
    refine ((HB.out.push _ _ _ rfl hr1 : Calls Try.prog 21 _ _ (RdOut w _ g [] (.int .i64 0) (enc 4 0) false))).mono ?_
    rintro e w2 ⟨rfl, xs2, hr2, hc2, hx2⟩
    go_wp2_with fail
    refine (HB.out.next _ _ _ hr2).mono ?_
    rintro e w3 ⟨a3, c3, xs3, rfl, hb3, hy3, hr3, hc3, hx3⟩
    go_wp2_with (first
      | (refine wp_bytes rfl _ rfl S rfl (by unfold maxLen; omega) ?_; intro c4 w4 hb4 hf4 hc4 hsz4)
      | (go_at_call 21; refine (HB.out.push2 _ _ _ _ _ _ _ (by rw [Array.length_toList]; exact hS) (hr3.new hc4) hb4).mono ?_; rintro e w5 ⟨rfl, xs5, hr5, hc5, hx5⟩)
      | (go_at_call 25; refine (HB.out.next2 _ _ _ hr5).mono ?_; rintro e w6 ⟨a6, c6, xs6, rfl, hb6, hy6, hr6, hc6, hx6⟩)
      | (go_at_call 27; refine (HB.out.broken _ _ _ hr6).mono ?_; rintro e w7 ⟨rfl, rfl⟩)
      | (go_at_call 22; refine (HB.out.held _ _ _ hr6).mono ?_; rintro e w7 ⟨rfl, rfl⟩)
      | (go_at_call 23; refine (works10 _).mono ?_; rintro e w7 ⟨rfl, hbel⟩))
    go_ret
    exact ⟨rfl, hr6.chg.then_below hbel⟩

theorem broken_walk (a0 : ByteArray) (a1 : Int) (w0 : a0.size ≤ maxLen) (w1 : (Lit.int .u32 a1).wf = true) (w : World) : Calls Try.prog 5 #[.string a0, .int .u32 a1] w (Yes w) := by
  obtain ⟨n, rfl, hn⟩ := wf_u32 w1
  unfold maxLen at w0
  have hs : a0.size ≤ 9223372036854775807 := by omega
  by_cases h0 : n = 0
  · subst h0
    exact brk_zero a0 hs w
  · by_cases h1 : n ≤ 16385
    · exact brk_mid a0 hs n (by omega) h1 w
    · exact brk_big a0 hs n hn (by omega) w
end Go.Proofs.Ytabdpebokpjljaa
