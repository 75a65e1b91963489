/- Walks: Below and Text of the reference's tape answer as the plain functions of a tape say. -/
import Derived.Test.YtabdpebokpjljaaR4
import Derived.StillTailTactics
import Derived.BigQuiet
namespace Go.Proofs.Ytabdpebokpjljaa
open Go.RowKit

theorem belowS_num (s : St) (wd : Int) (most : Nat) : belowS s wd most =
    if (numS s wd).2.2 = false ∧ (numS s wd).1 ≤ most ∧ (numS s wd).1 ≤ 4611686018427387904 then ((numS s wd).1, (numS s wd).2) else (0, (s.1, true)) := by
  unfold belowS numS
  by_cases h : s.2 = false ∧ mayW wd ∧ wd.toNat ≤ s.1.length
  · rw [if_pos h]
    by_cases h2 : be (s.1.take wd.toNat) ≤ most ∧ be (s.1.take wd.toNat) ≤ 4611686018427387904
    · rw [if_pos ⟨h.1, h.2.1, h.2.2, h2.1, h2.2⟩, if_pos ⟨rfl, h2.1, h2.2⟩]
    · rw [if_neg (fun hx => h2 ⟨hx.2.2.2.1, hx.2.2.2.2⟩), if_neg (fun hx => h2 hx.2)]
  · rw [if_neg h, if_neg (fun hx => h ⟨hx.1, hx.2.1, hx.2.2.1⟩), if_neg (fun hx => by simp at hx)]

theorem numS_torn (s : St) (wd : Int) (h : (numS s wd).2.2 = false) : s.2 = false := by
  unfold numS at h
  split at h
  · rename_i h1; exact h1.1
  · simp at h
theorem rbox {w : World} {g r o c : Nat} {l : List UInt8} {t : Bool} (h : TqH w g r o c l t) :
    Tq (w.drew.alloc (.cells #[.slice (some ⟨r, o, none⟩) l.length c, .bool t] 63)) w.heap.size r (l, t) :=
  ⟨o, c, heap_alloc_new w.drew _, by have := h.rlt; omega, (h.2.2.drew).alloc _⟩
set_option maxRecDepth 100000 in
set_option maxHeartbeats 1000000 in
theorem rbelow_any (g r : Nat) (s : St) (wd : Int) (most : Nat) (w : World) (h : Tq w g r s) (hl : s.1.length ≤ 1000000) (_hm : most < 18446744073709551616) :
    Calls Try.prog 68 #[.pointer (some ⟨g, 0, none⟩), .int .i64 wd, .int .u64 most] w (TqTo w g r (.int .i64 (belowS s wd most).1) (belowS s wd most).2) := by
  rw [belowS_num]
  obtain ⟨l, t⟩ := s
  obtain ⟨o, c, hh⟩ := h
  simp only at hh hl
  have c0 := hh.c0
  have c1 := hh.c1
  have hlt := hh.lt
  have HH := hid hh
  have hP : ∀ (W : World) (g : Nat), Tq W g r (l, t) → Calls Try.prog 69 #[.pointer (some ⟨g, 0, none⟩), .int .i64 wd] W (TqTo W g r (.int .u64 (numS (l, t) wd).1) (numS (l, t) wd).2) := fun W g h => rn_any g r (l, t) wd W h hl
  have HP := hid hP
  have HTT := hid (numS_torn (l, t) wd)
  clear hP hh hl
  generalize numS (l, t) wd = R at *
  obtain ⟨n, l', t'⟩ := R
  simp only at HP ⊢
  by_cases hok : t' = false ∧ n ≤ most ∧ n ≤ 4611686018427387904
  · rw [if_pos hok]
    obtain ⟨rfl, h1, h2⟩ := hok
    obtain rfl : t = false := HTT.out (by first | rfl | trivial)
    have d1 := gt_false h1
    have d2 : (n : Int) ≤ 4611686018427387904 := by omega
    go_enter Try.func68, Try.ntmps68
    go_wp2_with fail
    go_region
    go_wp2_with (go_at_call 69; refine (HP.out _ _ (rbox HH.out)).mono ?_; rintro e w2 ⟨rfl, ⟨o2, c2, h3⟩, h4⟩
                 have b0 := h3.c0
                 have b1 := h3.c1
                 have k2 : Chg w w2 [] := ((Chg.refl w []).drew.alloc _).step h4 (by simp)
                 have g0 := (k2.cell (p := ⟨g, 0, none⟩) hlt (by simp)).trans c0
                 have f0 := (k2.frozen (p := ⟨g, 0, none⟩) hlt (by simp)).trans (HH.out.f 0))
    go_ret
    have H3 := (HH.out.keep k2 (by simp) (by simp)).set0 h3.2.2
    exact ⟨rfl, ⟨_, _, H3⟩, (k2.mono (by simp)).trans (set_chg _ _ _ _) (by simp)⟩
  · rw [if_neg hok]
    have k3 : ∀ W : World, Chg w W [] → Tq (W.setCell ⟨g, 1, none⟩ (.bool true)) g r (l, true) := fun W hW => ⟨o, c, (HH.out.keep hW (by simp) (by simp)).set1 true⟩
    have K3 := hid k3
    clear k3
    cases t' with
    | true =>
      clear hok
      go_enter Try.func68, Try.ntmps68
      go_wp2_with fail
      go_region
      go_wp2_with (go_at_call 69; refine (HP.out _ _ (rbox HH.out)).mono ?_; rintro e w2 ⟨rfl, ⟨o2, c2, h3⟩, h4⟩
                   have b1 := h3.c1
                   have k2 : Chg w w2 [] := ((Chg.refl w []).drew.alloc _).step h4 (by simp)
                   have g1 := (k2.cell (p := ⟨g, 1, none⟩) hlt (by simp)).trans c1
                   have f1 := (k2.frozen (p := ⟨g, 1, none⟩) hlt (by simp)).trans (HH.out.f 1))
      go_ret
      exact ⟨rfl, K3.out _ k2, (k2.mono (by simp)).trans (set_chg _ _ _ _) (by simp)⟩
    | false =>
      by_cases h1 : n ≤ most
      · have d1 := gt_false h1
        have d2 : (4611686018427387904 : Int) < (n : Int) := by
          have : ¬ n ≤ 4611686018427387904 := fun hx => hok ⟨rfl, h1, hx⟩
          omega
        clear hok
        go_enter Try.func68, Try.ntmps68
        go_wp2_with fail
        go_region
        go_wp2_with (go_at_call 69; refine (HP.out _ _ (rbox HH.out)).mono ?_; rintro e w2 ⟨rfl, ⟨o2, c2, h3⟩, h4⟩
                     have b1 := h3.c1
                     have k2 : Chg w w2 [] := ((Chg.refl w []).drew.alloc _).step h4 (by simp)
                     have g1 := (k2.cell (p := ⟨g, 1, none⟩) hlt (by simp)).trans c1
                     have f1 := (k2.frozen (p := ⟨g, 1, none⟩) hlt (by simp)).trans (HH.out.f 1))
        go_ret
        exact ⟨rfl, K3.out _ k2, (k2.mono (by simp)).trans (set_chg _ _ _ _) (by simp)⟩
      · have d1 : (most : Int) < (n : Int) := by omega
        clear hok
        go_enter Try.func68, Try.ntmps68
        go_wp2_with fail
        go_region
        go_wp2_with (go_at_call 69; refine (HP.out _ _ (rbox HH.out)).mono ?_; rintro e w2 ⟨rfl, ⟨o2, c2, h3⟩, h4⟩
                     have b1 := h3.c1
                     have k2 : Chg w w2 [] := ((Chg.refl w []).drew.alloc _).step h4 (by simp)
                     have g1 := (k2.cell (p := ⟨g, 1, none⟩) hlt (by simp)).trans c1
                     have f1 := (k2.frozen (p := ⟨g, 1, none⟩) hlt (by simp)).trans (HH.out.f 1))
        go_ret
        exact ⟨rfl, K3.out _ k2, (k2.mono (by simp)).trans (set_chg _ _ _ _) (by simp)⟩

theorem textS_num (s : St) (most : Int) : textS s most =
    if (numS s 2).2.2 = false ∧ 0 ≤ most ∧ ((numS s 2).1 : Int) ≤ most ∧ (numS s 2).1 ≤ (numS s 2).2.1.length then ((numS s 2).2.1.take (numS s 2).1, ((numS s 2).2.1.drop (numS s 2).1, false)) else ([], (s.1, true)) := by
  have h2 : mayW 2 := by unfold mayW; omega
  unfold textS numS
  by_cases h : s.2 = false ∧ 2 ≤ s.1.length
  · rw [if_pos (⟨h.1, h2, h.2⟩ : s.2 = false ∧ mayW 2 ∧ (2 : Int).toNat ≤ s.1.length)]
    have e2 : (2 : Int).toNat = 2 := rfl
    simp only [e2]
    by_cases hb : 0 ≤ most ∧ (be (s.1.take 2) : Int) ≤ most ∧ 2 + be (s.1.take 2) ≤ s.1.length
    · rw [if_pos ⟨h.1, hb.1, h.2, hb.2.1, hb.2.2⟩, if_pos ⟨by first | rfl | trivial, hb.1, hb.2.1, by simp; omega⟩, List.drop_drop]
    · rw [if_neg (fun hx => hb ⟨hx.2.1, hx.2.2.2.1, hx.2.2.2.2⟩), if_neg (fun hx => hb ⟨hx.2.1, hx.2.2.1, by have := hx.2.2.2; simp at this; omega⟩)]
  · rw [if_neg (fun hx => h ⟨hx.1, hx.2.2.1⟩), if_neg (fun hx => h ⟨hx.1, hx.2.2⟩ : ¬ (s.2 = false ∧ mayW 2 ∧ (2 : Int).toNat ≤ s.1.length)), if_neg (fun hx => by simp at hx)]
theorem num2_lt (s : St) : (numS s 2).1 < 65536 ∧ (numS s 2).2.1.length ≤ s.1.length := by
  unfold numS
  split
  · exact ⟨be2_lt _, by simp⟩
  · exact ⟨by simp, Nat.le_refl _⟩

set_option maxRecDepth 100000 in
set_option maxHeartbeats 1000000 in
theorem rtxt_any (g r : Nat) (s : St) (most : Int) (w : World) (h : Tq w g r s) (hl : s.1.length ≤ 1000000) (hwf : most ≤ 9223372036854775807) :
    Calls Try.prog 73 #[.pointer (some ⟨g, 0, none⟩), .int .i64 most] w (TqTo w g r (.string (str (textS s most).1)) (textS s most).2) := by
  rw [textS_num]
  obtain ⟨l, t⟩ := s
  obtain ⟨o, c, hh⟩ := h
  simp only at hh hl
  have c0 := hh.c0
  have c1 := hh.c1
  have hlt := hh.lt
  have HH := hid hh
  have hP : ∀ (W : World) (g : Nat), Tq W g r (l, t) → Calls Try.prog 69 #[.pointer (some ⟨g, 0, none⟩), .int .i64 2] W (TqTo W g r (.int .u64 (numS (l, t) 2).1) (numS (l, t) 2).2) := fun W g h => rn_any g r (l, t) 2 W h hl
  have HP := hid hP
  have HTT := hid (numS_torn (l, t) 2)
  have hnb := num2_lt (l, t)
  clear hP hh
  generalize numS (l, t) 2 = R at *
  obtain ⟨n, l', t'⟩ := R
  simp only at HP hnb hl ⊢
  obtain ⟨hn1, hn2⟩ := hnb
  by_cases hok : t' = false ∧ 0 ≤ most ∧ (n : Int) ≤ most ∧ n ≤ l'.length
  · rw [if_pos hok]
    obtain ⟨rfl, h1, h2, h3⟩ := hok
    obtain rfl : t = false := HTT.out (by first | rfl | trivial)
    obtain ⟨m, rfl⟩ := Int.eq_ofNat_of_zero_le h1
    have h2' : n ≤ m := by omega
    have d1 := gt_false h2'
    have d2 := gt_false h3
    have e0 : decide ((m : Int) < 0) = false := by simp
    have e1 : decide (m < n) = false := by simp; omega
    have e2 : decide (l'.length < n) = false := by simp; omega
    have d3 : (n : Int) ≤ 65535 := by omega
    have d4 : (l'.length : Int) ≤ 1000000 := by omega
    have hS : ∀ (W : World) (g : Nat), Tq W g r (l', false) → Calls Try.prog 77 #[.pointer (some ⟨g, 0, none⟩), .int .i64 n] W (SqTo W g r (l'.take n) (l'.drop n, false)) := fun W g h => by
      have := rstep_any g r (l', false) n W h (by simp only; omega)
      rwa [show bytesS (l', false) n = (l'.take n, (l'.drop n, false)) from by simp [bytesS]; omega] at this
    have HSS := hid hS
    have hlt2 := hid (show (l'.take n).length = n by simp; omega)
    clear hS h1 h2 h2' h3
    generalize l'.take n = lb at *
    generalize l'.drop n = ld at *
    go_enter Try.func73, Try.ntmps73
    go_wp2_with fail
    go_region
    go_wp2_with (first
      | (go_at_call 69; refine (HP.out _ _ (rbox HH.out)).mono ?_; rintro e w2 ⟨rfl, ⟨o2, c2, h3⟩, h4⟩
         have b0 := h3.c0
         have b1 := h3.c1
         have k2 : Chg w w2 [] := ((Chg.refl w []).drew.alloc _).step h4 (by simp)
         have H3 := hid h3
         clear h3)
      | (go_at_call 77; refine (HSS.out _ _ ⟨_, _, H3.out⟩).mono ?_; rintro e w3 ⟨ao, c3, rfl, hb3, ⟨o4, c4, h5⟩, h6, h7⟩
         have b2 := h5.c0
         have k3 : Chg w w3 [] := k2.step h6 (by simp)
         have g0 := (k3.cell (p := ⟨g, 0, none⟩) hlt (by simp)).trans c0
         have f0 := (k3.frozen (p := ⟨g, 0, none⟩) hlt (by simp)).trans (HH.out.f 0)
         have hcv := run_str (hb3.keep (set_chg w3 g 0 (.slice (some ⟨r, o4, none⟩) ld.length c4)) (fun x hx => by { have e1 := h7 x hx; have e2 := k2.size; simp; omega })))
      )
    go_ret
    have H4 := (HH.out.keep k3 (by simp) (by simp)).set0 h5.2.2
    exact ⟨rfl, ⟨_, _, H4⟩, (k3.mono (by simp)).trans (set_chg _ _ _ _) (by simp)⟩
  · rw [if_neg hok]
    have k3 : ∀ W : World, Chg w W [] → Tq (W.setCell ⟨g, 1, none⟩ (.bool true)) g r (l, true) := fun W hW => ⟨o, c, (HH.out.keep hW (by simp) (by simp)).set1 true⟩
    have K3 := hid k3
    clear k3
    cases t' with
    | true =>
      clear hok
      go_enter Try.func73, Try.ntmps73
      go_wp2_with fail
      go_region
      go_wp2_with (go_at_call 69; refine (HP.out _ _ (rbox HH.out)).mono ?_; rintro e w2 ⟨rfl, ⟨o2, c2, h3⟩, h4⟩
                   have b1 := h3.c1
                   have b0 := h3.c0
                   have k2 : Chg w w2 [] := ((Chg.refl w []).drew.alloc _).step h4 (by simp)
                   have g1 := (k2.cell (p := ⟨g, 1, none⟩) hlt (by simp)).trans c1
                   have f1 := (k2.frozen (p := ⟨g, 1, none⟩) hlt (by simp)).trans (HH.out.f 1))
      go_ret
      exact ⟨rfl, K3.out _ k2, (k2.mono (by simp)).trans (set_chg _ _ _ _) (by simp)⟩
    | false =>
      by_cases h1 : most < 0
      · clear hok
        go_enter Try.func73, Try.ntmps73
        go_wp2_with fail
        go_region
        go_wp2_with (go_at_call 69; refine (HP.out _ _ (rbox HH.out)).mono ?_; rintro e w2 ⟨rfl, ⟨o2, c2, h3⟩, h4⟩
                     have b1 := h3.c1
                     have b0 := h3.c0
                     have k2 : Chg w w2 [] := ((Chg.refl w []).drew.alloc _).step h4 (by simp)
                     have g1 := (k2.cell (p := ⟨g, 1, none⟩) hlt (by simp)).trans c1
                     have f1 := (k2.frozen (p := ⟨g, 1, none⟩) hlt (by simp)).trans (HH.out.f 1))
        go_ret
        exact ⟨rfl, K3.out _ k2, (k2.mono (by simp)).trans (set_chg _ _ _ _) (by simp)⟩
      · obtain ⟨m, rfl⟩ := Int.eq_ofNat_of_zero_le (Int.not_lt.1 h1)
        by_cases h2 : n ≤ m
        · have d1 := gt_false h2
          have e0 : decide ((m : Int) < 0) = false := by simp
          have e1 : decide (m < n) = false := by simp; omega
          have e2 : decide (l'.length < n) = true := by
            have : ¬ n ≤ l'.length := fun hx => hok ⟨rfl, by omega, by omega, hx⟩
            simp; omega
          have d2 : (l'.length : Int) < (n : Int) := by
            have : ¬ n ≤ l'.length := fun hx => hok ⟨rfl, by omega, by omega, hx⟩
            omega
          have d4 : (l'.length : Int) ≤ 1000000 := by omega
          clear hok h1 h2
          go_enter Try.func73, Try.ntmps73
          go_wp2_with fail
          go_region
          go_wp2_with (go_at_call 69; refine (HP.out _ _ (rbox HH.out)).mono ?_; rintro e w2 ⟨rfl, ⟨o2, c2, h3⟩, h4⟩
                       have b1 := h3.c1
                       have b0 := h3.c0
                       have k2 : Chg w w2 [] := ((Chg.refl w []).drew.alloc _).step h4 (by simp)
                       have g1 := (k2.cell (p := ⟨g, 1, none⟩) hlt (by simp)).trans c1
                       have f1 := (k2.frozen (p := ⟨g, 1, none⟩) hlt (by simp)).trans (HH.out.f 1))
          go_ret
          exact ⟨rfl, K3.out _ k2, (k2.mono (by simp)).trans (set_chg _ _ _ _) (by simp)⟩
        · have d1 : (m : Int) < (n : Int) := by omega
          have e0 : decide ((m : Int) < 0) = false := by simp
          have e1 : decide (m < n) = true := by simp; omega
          clear hok h1 h2
          go_enter Try.func73, Try.ntmps73
          go_wp2_with fail
          go_region
          go_wp2_with (go_at_call 69; refine (HP.out _ _ (rbox HH.out)).mono ?_; rintro e w2 ⟨rfl, ⟨o2, c2, h3⟩, h4⟩
                       have b1 := h3.c1
                       have b0 := h3.c0
                       have k2 : Chg w w2 [] := ((Chg.refl w []).drew.alloc _).step h4 (by simp)
                       have g1 := (k2.cell (p := ⟨g, 1, none⟩) hlt (by simp)).trans c1
                       have f1 := (k2.frozen (p := ⟨g, 1, none⟩) hlt (by simp)).trans (HH.out.f 1))
          go_ret
          exact ⟨rfl, K3.out _ k2, (k2.mono (by simp)).trans (set_chg _ _ _ _) (by simp)⟩
end Go.Proofs.Ytabdpebokpjljaa
