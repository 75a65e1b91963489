/- FrameKnown: the law answers true, and nothing that was there has turned. No condition. -/
import Derived.Test.YtabdpebokpjljaaF8
namespace Go.Proofs.Ytabdpebokpjljaa
open Go.RowKit

/-- The contracts of the first reader's calls. -/
structure Kn : Prop where
  p1 : ∀ (w0 W : World) (g n : Nat), n = W.heap.size → RdIn w0 W g [] [] false → Calls Try.prog 21 #[.pointer (some ⟨g, 0, none⟩), .slice (some ⟨n, 0, none⟩) 6 6] (W.alloc (.cells #[.int .u8 0, .int .u8 0, .int .u8 0, .int .u8 3, .int .u8 5, .int .u8 171] 5))
      (RdOut w0 (W.alloc (.cells #[.int .u8 0, .int .u8 0, .int .u8 0, .int .u8 3, .int .u8 5, .int .u8 171] 5)) g [] (.int .i64 0) [0, 0, 0, 3, 5, 171] false)
  p2 : ∀ (w0 W : World) (g : Nat) (xs : List Nat), RdIn w0 W g xs [0, 0, 0, 3, 5, 171] false → Calls Try.prog 25 #[.pointer (some ⟨g, 0, none⟩)] W (NextOut w0 W g xs ((0, [], false, 0), [0, 0, 0, 3, 5, 171], false))
  p3 : ∀ (w0 W : World) (g : Nat) (xs : List Nat) (n : Nat), n = W.heap.size → RdIn w0 W g xs [0, 0, 0, 3, 5, 171] false → Calls Try.prog 21 #[.pointer (some ⟨g, 0, none⟩), .slice (some ⟨n, 0, none⟩) 3 3] (W.alloc (.cells #[.int .u8 205, .int .u8 0, .int .u8 0] 5))
      (RdOut w0 (W.alloc (.cells #[.int .u8 205, .int .u8 0, .int .u8 0] 5)) g xs (.int .i64 0) [0, 0, 0, 3, 5, 171, 205, 0, 0] false)
  p4 : ∀ (w0 W : World) (g : Nat) (xs : List Nat), RdIn w0 W g xs [0, 0, 0, 3, 5, 171, 205, 0, 0] false → Calls Try.prog 25 #[.pointer (some ⟨g, 0, none⟩)] W (NextOut w0 W g xs ((5, [171, 205], true, 0), [0, 0], false))
  p5 : ∀ (w0 W : World) (g : Nat) (xs : List Nat), RdIn w0 W g xs [0, 0] false → Calls Try.prog 25 #[.pointer (some ⟨g, 0, none⟩)] W (NextOut w0 W g xs ((0, [], false, 0), [0, 0], false))
  p6 : ∀ (w0 W : World) (g : Nat) (xs : List Nat), RdIn w0 W g xs [0, 0] false → Calls Try.prog 22 #[.pointer (some ⟨g, 0, none⟩)] W fun e w' => e = .returned (.int .i64 2) ∧ W = w'

theorem kn_all : Kn where
  p1 := fun w0 W g n hn h => by
    subst hn
    exact push_in w0 g [] [] false _ 6 6 [0, 0, 0, 3, 5, 171] _ (h.alloc _) (bs_lit W [0, 0, 0, 3, 5, 171] (by decide)) (by decide) (by decide)
  p2 := fun w0 W g xs h => next_in w0 g xs _ false W h (by decide)
  p3 := fun w0 W g xs n hn h => by
    subst hn
    exact push_in w0 g xs _ false _ 3 3 [205, 0, 0] _ (h.alloc _) (bs_lit W [205, 0, 0] (by decide)) (by decide) (by decide)
  p4 := fun w0 W g xs h => next_in w0 g xs _ false W h (by decide)
  p5 := fun w0 W g xs h => next_in w0 g xs _ false W h (by decide)
  p6 := fun w0 W g xs h => held_any g xs _ false W h.rd

/-- The contracts of Put. -/
structure KnP : Prop where
  q1 : ∀ W : World, Calls Try.prog 55 #[.int .i64 8, .slice none 0 0] W (FPut W ([0, 0, 0, 1, 8], 0))
  q2 : ∀ (W : World) (n : Nat), n = W.heap.size → Calls Try.prog 55 #[.int .i64 5, .slice (some ⟨n, 0, none⟩) 2 2] (W.alloc (.cells #[.int .u8 171, .int .u8 205] 5)) (FPut (W.alloc (.cells #[.int .u8 171, .int .u8 205] 5)) ([0, 0, 0, 3, 5, 171, 205], 0))
  q3 : ∀ W : World, Calls Try.prog 55 #[.int .i64 0, .slice none 0 0] W (FPut W ([], 2))
  q4 : ∀ W : World, Calls Try.prog 55 #[.int .i64 10, .slice none 0 0] W (FPut W ([], 2))
theorem knp_all : KnP where
  q1 := fun W => fput_any 8 none 0 0 [] W (Bs.nil W) (by decide) (by omega)
  q2 := fun W n hn => by
    subst hn
    exact fput_any 5 _ 2 2 [171, 205] _ (bs_lit W [171, 205] (by decide)) (by decide) (by omega)
  q3 := fun W => fput_any 0 none 0 0 [] W (Bs.nil W) (by decide) (by omega)
  q4 := fun W => fput_any 10 none 0 0 [] W (Bs.nil W) (by decide) (by omega)

/-- The six heads. -/
def hd : Nat → List UInt8
  | 0 => [0, 0, 0, 0]
  | 1 => [0, 0, 0, 3, 10]
  | 2 => [0, 0, 64, 2]
  | 3 => [0, 0, 0, 3, 0]
  | 4 => [0, 0, 64, 1]
  | _ => [0, 0, 0, 3]
def tb1 (w : World) (k : Nat) : World := w.alloc (.cells ((hd k).map bv).toArray 5)
def tb6 (w : World) : World := tb1 (tb1 (tb1 (tb1 (tb1 (tb1 w 0) 1) 2) 3) 4) 5
def tabW (w : World) : World := (tb6 w).alloc (.cells #[.slice (some ⟨w.heap.size, 0, none⟩) 4 4, .slice (some ⟨w.heap.size + 1, 0, none⟩) 5 5, .slice (some ⟨w.heap.size + 1 + 1, 0, none⟩) 4 4, .slice (some ⟨w.heap.size + 1 + 1 + 1, 0, none⟩) 5 5,
   .slice (some ⟨w.heap.size + 1 + 1 + 1 + 1, 0, none⟩) 4 4, .slice (some ⟨w.heap.size + 1 + 1 + 1 + 1 + 1, 0, none⟩) 4 4] 27)
theorem tb1_chg (w : World) (k : Nat) : Chg w (tb1 w k) [] := (Chg.refl w []).alloc _
theorem tb1_size (w : World) (k : Nat) : (tb1 w k).heap.size = w.heap.size + 1 := by simp [tb1]
theorem tb1_bs (w : World) (k : Nat) (hk : (hd k).length ≤ 1000) : Bs (tb1 w k) (some ⟨w.heap.size, 0, none⟩) (hd k).length (hd k).length (hd k) := bs_lit w (hd k) hk
theorem tabW_chg (w : World) : Chg w (tabW w) [] :=
  ((((((((tb1_chg w 0).trans (tb1_chg _ 1) (by simp)).trans (tb1_chg _ 2) (by simp)).trans (tb1_chg _ 3) (by simp)).trans (tb1_chg _ 4) (by simp)).trans (tb1_chg _ 5) (by simp)).alloc _))
theorem tabW_head (w W : World) (h : Chg (tabW w) W []) (k : Nat) (hk : k < 6) : ∃ r, W.cell? ⟨w.heap.size + 1 + 1 + 1 + 1 + 1 + 1, k, none⟩ = some (.slice (some ⟨r, 0, none⟩) (hd k).length (hd k).length) ∧ Bs W (some ⟨r, 0, none⟩) (hd k).length (hd k).length (hd k) := by
  have hs : (tb6 w).heap.size = w.heap.size + 1 + 1 + 1 + 1 + 1 + 1 := by simp [tb6, tb1_size]
  have hc : ∀ j : Nat, W.cell? ⟨w.heap.size + 1 + 1 + 1 + 1 + 1 + 1, j, none⟩ = (#[Value.slice (some ⟨w.heap.size, 0, none⟩) 4 4, .slice (some ⟨w.heap.size + 1, 0, none⟩) 5 5, .slice (some ⟨w.heap.size + 1 + 1, 0, none⟩) 4 4, .slice (some ⟨w.heap.size + 1 + 1 + 1, 0, none⟩) 5 5,
   .slice (some ⟨w.heap.size + 1 + 1 + 1 + 1, 0, none⟩) 4 4, .slice (some ⟨w.heap.size + 1 + 1 + 1 + 1 + 1, 0, none⟩) 4 4])[j]? := fun j => by
    rw [h.cell (by simp [tabW, hs]) (by simp), ← hs, tabW, World.cell?_alloc_new]
  have f0 : Chg (tb1 w 0) W [] := ((((((tb1_chg _ 1).trans (tb1_chg _ 2) (by simp)).trans (tb1_chg _ 3) (by simp)).trans (tb1_chg _ 4) (by simp)).trans (tb1_chg _ 5) (by simp)).alloc _).trans h (by simp)
  have f1 : Chg (tb1 (tb1 w 0) 1) W [] := (((((tb1_chg _ 2).trans (tb1_chg _ 3) (by simp)).trans (tb1_chg _ 4) (by simp)).trans (tb1_chg _ 5) (by simp)).alloc _).trans h (by simp)
  have f2 : Chg (tb1 (tb1 (tb1 w 0) 1) 2) W [] := ((((tb1_chg _ 3).trans (tb1_chg _ 4) (by simp)).trans (tb1_chg _ 5) (by simp)).alloc _).trans h (by simp)
  have f3 : Chg (tb1 (tb1 (tb1 (tb1 w 0) 1) 2) 3) W [] := (((tb1_chg _ 4).trans (tb1_chg _ 5) (by simp)).alloc _).trans h (by simp)
  have f4 : Chg (tb1 (tb1 (tb1 (tb1 (tb1 w 0) 1) 2) 3) 4) W [] := ((tb1_chg _ 5).alloc _).trans h (by simp)
  have f5 : Chg (tb6 w) W [] := ((Chg.refl _ []).alloc _).trans h (by simp)
  match k, hk with
  | 0, _ => exact ⟨_, hc 0, (tb1_bs w 0 (by decide)).keep f0 (by simp)⟩
  | 1, _ => exact ⟨_, hc 1, by have := (tb1_bs (tb1 w 0) 1 (by decide)).keep f1 (by simp); simpa only [tb1_size] using this⟩
  | 2, _ => exact ⟨_, hc 2, by have := (tb1_bs (tb1 (tb1 w 0) 1) 2 (by decide)).keep f2 (by simp); simpa only [tb1_size] using this⟩
  | 3, _ => exact ⟨_, hc 3, by have := (tb1_bs (tb1 (tb1 (tb1 w 0) 1) 2) 3 (by decide)).keep f3 (by simp); simpa only [tb1_size] using this⟩
  | 4, _ => exact ⟨_, hc 4, by have := (tb1_bs (tb1 (tb1 (tb1 (tb1 w 0) 1) 2) 3) 4 (by decide)).keep f4 (by simp); simpa only [tb1_size] using this⟩
  | 5, _ => exact ⟨_, hc 5, by have := (tb1_bs (tb1 (tb1 (tb1 (tb1 (tb1 w 0) 1) 2) 3) 4) 5 (by decide)).keep f5 (by simp); simpa only [tb1_size] using this⟩

/-- What Next answers to a head. -/
theorem hd_next (k : Nat) (hk : k < 6) : nextS (hd k) false = ((0, [], false, if k < 4 then 4 else 0), hd k, decide (k < 4)) := by
  match k, hk with
  | 0, _ => decide
  | 1, _ => decide
  | 2, _ => decide
  | 3, _ => decide
  | 4, _ => decide
  | 5, _ => decide
theorem hd_len (k : Nat) : (hd k).length ≤ 5 := by unfold hd; split <;> decide

set_option maxRecDepth 100000 in
set_option maxHeartbeats 4000000 in
theorem known_walk (w : World) : Calls Try.prog 18 #[] w (Yes w) := by
  have KP := hid knp_all
  have K := hid kn_all
  go_enter Try.func18, Try.ntmps18
  go_wp2_with fail
  refine (KP.out.q1 _).mono ?_
  rintro e w1 ⟨a1, c1, rfl, hb1, hc1, hy1⟩
  go_wp2_with fail
  refine (KP.out.q2 _ _ rfl).mono ?_
  rintro e w2 ⟨a2, c2, rfl, hb2, hc2, hy2⟩
  go_wp2_with fail
  refine (KP.out.q3 _).mono ?_
  rintro e w3 ⟨a3, c3, rfl, hb3, hc3, hy3⟩
  go_wp2_with fail
  refine (KP.out.q4 _).mono ?_
  rintro e w4 ⟨a4, c4, rfl, hb4, hc4, hy4⟩
  have k24 := hc3.trans hc4 (by simp)
  have k14 := (((Chg.refl w1 []).alloc (.cells #[.int .u8 171, .int .u8 205] 5)).trans hc2 (by simp)).trans k24 (by simp)
  have k04 := hc1.trans k14 (by simp)
  have s1 : (convert 27 9 (.slice a1 5 c1)).run Try.prog w4 = .ok (.string (str [0, 0, 0, 1, 8])) w4 := run_str (hb1.keep k14 (by simp))
  have s2 : (convert 27 9 (.slice a2 7 c2)).run Try.prog w4 = .ok (.string (str [0, 0, 0, 3, 5, 171, 205])) w4 := run_str (hb2.keep k24 (by simp))
  clear hb1 hb2 hb3 hb4 hy1 hy2 hy3 hy4 hc1 hc2 hc3 hc4 k14 k24
  go_wp2_with fail
  clear s1 s2
  refine (new_in _).mono ?_
  rintro e w5 ⟨g, rfl, h5, hg5⟩
  go_wp2_with fail
  refine (K.out.p1 _ _ _ _ rfl h5).mono ?_
  rintro e w6 ⟨rfl, xs6, h6, hc6, hx6⟩
  clear h5 hc6 hx6
  go_wp2_with fail
  refine (K.out.p2 _ _ _ _ h6).mono ?_
  rintro e w7 ⟨a7, c7, xs7, rfl, hb7, hy7, h7, hc7, hx7⟩
  clear h6 hb7 hc7 hx7 hy7
  go_wp2_with fail
  refine (K.out.p3 _ _ _ _ _ rfl h7).mono ?_
  rintro e w8 ⟨rfl, xs8, h8, hc8, hx8⟩
  clear h7 hc8 hx8
  go_wp2_with fail
  refine (K.out.p4 _ _ _ _ h8).mono ?_
  rintro e w9 ⟨a9, c9, xs9, rfl, hb9, hy9, h9, hc9, hx9⟩
  clear h8 hc9 hx9
  go_wp2_with fail
  refine (K.out.p5 _ _ _ _ h9).mono ?_
  rintro e w10 ⟨a10, c10, xs10, rfl, hb10, hy10, h10, hc10, hx10⟩
  have s9 : (convert 27 9 (.slice a9 2 c9)).run Try.prog w10 = .ok (.string (str [171, 205])) w10 := run_str (hb9.keep hc10 (fun x hx => by simp; exact (hy9 x hx).2.1))
  clear hb9 hy9 hb10 hy10 hc10 hx10 h9
  go_wp2_with (go_at_call 22; refine (K.out.p6 _ _ _ _ h10).mono ?_; rintro e w11 ⟨rfl, rfl⟩)
  have k10 : Chg w (tabW w10) [] := (k04.trans h10.chg (by simp)).trans (tabW_chg w10) (by simp)
  have HH := hid (tabW_head w10)
  clear h10 hg5 k04 s9
  go_loopw [25] (fun i wr => ∃ k : Nat, k ≤ 6 ∧ i = .int .i64 k ∧ Chg (tabW w10) wr [])
    (fun i _ => 6 - (intOf i).toNat)
  case atStart => exact ⟨0, by omega, rfl, Chg.refl (tabW w10) []⟩
  case round =>
    obtain ⟨k, hk, rfl, hC⟩ := hrel
    have hk' : (k : Int) ≤ 6 := by omega
    by_cases hlt : k < 6
    · have hlt' : (k : Int) < 6 := by omega
      have HK := hid (fun W h => HH.out W h k hlt)
      have hfr := hd_next k hlt
      have hln := hd_len k
      by_cases h4 : k < 4
      · have h4' : (k : Int) < 4 := by omega
        rw [if_pos h4, decide_eq_true h4] at hfr
        have HP := hid (fun (W : World) (g r : Nat) (h : RdIn wr W g [] [] false) (h2 : Bs W (some ⟨r, 0, none⟩) (hd k).length (hd k).length (hd k)) => by
          have := push_in wr g [] [] false _ _ _ _ W h h2 (by simp) (by omega)
          rw [show pushS [] false (hd k) = (0, hd k, false) from by unfold pushS; rw [if_neg (by decide), if_neg (by simp; omega)]; rfl] at this
          exact this)
        have HN := hid (fun (W : World) (g : Nat) (xs : List Nat) (h : RdIn wr W g xs (hd k) false) => by
          have := next_in wr g xs _ false W h (by omega)
          rw [hfr] at this
          exact this)
        generalize hd k = l at *
        clear hfr
        go_wp2_with (first
          | (go_at_call 20; refine (new_in _).mono ?_; rintro e v1 ⟨g2, rfl, r1, hg1⟩; obtain ⟨r, hcell, hbs⟩ := HK.out v1 (hC.trans r1.chg (by simp)))
          | (go_at_call 21; refine (HP.out _ _ _ r1 hbs).mono ?_; rintro e v2 ⟨rfl, ys2, r2, hd2, hx2⟩)
          | (go_at_call 25; refine (HN.out _ _ _ r2).mono ?_; rintro e v3 ⟨a3, c3, ys3, rfl, hb3, hy3, r3, hc3, hx3⟩)
          | (go_at_call 27; refine (broken_any _ _ _ _ _ r3.rd).mono ?_; rintro e v4 ⟨rfl, rfl⟩))
        go_roundw
        case rel => exact ⟨k + 1, by omega, by go_num, hC.trans r3.chg (by simp)⟩
        case measure => simp [intOf]; omega
      · have h4' : ¬ ((k : Int) < 4) := by omega
        rw [if_neg h4, decide_eq_false h4] at hfr
        have HP := hid (fun (W : World) (g r : Nat) (h : RdIn wr W g [] [] false) (h2 : Bs W (some ⟨r, 0, none⟩) (hd k).length (hd k).length (hd k)) => by
          have := push_in wr g [] [] false _ _ _ _ W h h2 (by simp) (by omega)
          rw [show pushS [] false (hd k) = (0, hd k, false) from by unfold pushS; rw [if_neg (by decide), if_neg (by simp; omega)]; rfl] at this
          exact this)
        have HN := hid (fun (W : World) (g : Nat) (xs : List Nat) (h : RdIn wr W g xs (hd k) false) => by
          have := next_in wr g xs _ false W h (by omega)
          rw [hfr] at this
          exact this)
        generalize hd k = l at *
        clear hfr
        go_wp2_with (first
          | (go_at_call 20; refine (new_in _).mono ?_; rintro e v1 ⟨g2, rfl, r1, hg1⟩; obtain ⟨r, hcell, hbs⟩ := HK.out v1 (hC.trans r1.chg (by simp)))
          | (go_at_call 21; refine (HP.out _ _ _ r1 hbs).mono ?_; rintro e v2 ⟨rfl, ys2, r2, hd2, hx2⟩)
          | (go_at_call 25; refine (HN.out _ _ _ r2).mono ?_; rintro e v3 ⟨a3, c3, ys3, rfl, hb3, hy3, r3, hc3, hx3⟩)
          | (go_at_call 27; refine (broken_any _ _ _ _ _ r3.rd).mono ?_; rintro e v4 ⟨rfl, rfl⟩))
        go_roundw
        case rel => exact ⟨k + 1, by omega, by go_num, hC.trans r3.chg (by simp)⟩
        case measure => simp [intOf]; omega
    · obtain rfl : k = 6 := by omega
      have kC := k10.trans hC (by simp)
      go_wp2_with fail
      refine (next_nil _).mono ?_
      rintro e x1 ⟨rfl, hx1⟩
      have hE : Emp x1 wr.heap.size := Emp.keep (w := wr.alloc (.cells #[.slice none 0 0, .bool false, .bool false] 106)) ⟨by simp [World.cell?_alloc_at], by simp⟩ hx1 (by simp)
      have HE := hid hE
      clear hE
      have tok1 : True := trivial
      have tok2 : True := trivial
      go_wp2_with (first
        | (go_at_call 22; refine (held_nil _).mono ?_; rintro e x2 ⟨rfl, rfl⟩)
        | (go_at_call 23; refine (works10 _).mono ?_; rintro e x3 ⟨rfl, hbel⟩)
        | (go_at_call 21; have _t := tok1; refine (push_nil _).mono ?_; clear _t tok1; rintro e x2 ⟨rfl, rfl⟩)
        | (go_at_call 27; have _t := tok2; refine (broken_nil _).mono ?_; clear _t tok2; rintro e x2 ⟨rfl, rfl⟩)
        | (go_at_call 21; refine (push_emp _ _ HE.out).mono ?_; rintro e x2 ⟨rfl, rfl⟩)
        | (go_at_call 27; refine (broken_emp _ _ HE.out).mono ?_; rintro e x2 ⟨rfl, rfl⟩))
      go_ret
      exact ⟨rfl, ((kC.alloc _).trans hx1 (by simp)).then_below hbel⟩
end Go.Proofs.Ytabdpebokpjljaa
