/- Walks: Text, Left, Err, End of the tape of package bytes answer as the plain functions of a tape say. -/
import Derived.Test.YtabdpebokpjljaaW3
namespace Go.Proofs.Ytabdpebokpjljaa
open Go.RowKit

theorem be2_lt (l : List UInt8) : be (l.take 2) < 65536 := by
  have h1 := be_lt (l.take 2)
  have h2 : (256 : Nat) ^ (l.take 2).length ≤ 256 ^ 2 := Nat.pow_le_pow_right (by decide) (by simp; omega)
  have h3 : (256 : Nat) ^ 2 = 65536 := by decide
  omega

set_option maxHeartbeats 400000 in
/-- Text. -/
theorem text_any (g r : Nat) (s : St) (most : Int) (w : World) (h : Tp w g r s) (hwf : most ≤ 9223372036854775807) :
    Calls Try.prog 45 #[.pointer (some ⟨g, 0, none⟩), .int .i64 most] w (TpTo w g r (.string (str (textS s most).1)) (textS s most).2) := by
  obtain ⟨l, t⟩ := s
  have h' := h
  obtain ⟨o, c, hh⟩ := h'
  have c0 := hh.c0
  have c1 := hh.c1
  have c2 := hh.c2
  have hbs := hid hh.2.2
  have hne := hid hh.2.1
  simp only at c0 c2 hbs
  clear hh
  cases t with
  | true =>
    have e : textS (l, true) most = ([], (l, true)) := by simp [textS]
    rw [e]
    go_enter Try.func45, Try.ntmps45
    go_wp2_with (go_at_call 65; refine (whole_any g true true _ (by assumption) (by assumption)).mono ?_; rintro e w' ⟨rfl, rfl⟩)
    go_ret
    exact ⟨rfl, h, Chg.refl _ _⟩
  | false =>
    by_cases hm : most < 0
    · have e : textS (l, false) most = ([], (l, true)) := by rw [textS, if_neg]; intro hx; omega
      rw [e]
      clear e
      have hB := below_any g r (l, false) 2 0 w h (by decide)
      by_cases hok : 2 ≤ l.length ∧ be (l.take 2) = 0
      · have e : belowS (l, false) 2 0 = (0, (l.drop 2, false)) := by
          have : mayW 2 := by unfold mayW; omega
          simp [belowS, hok, this]
        rw [e] at hB
        have HB := hid hB
        clear hB hok e
        go_enter Try.func45, Try.ntmps45
        go_wp2_with (first
          | (go_at_call 65; refine (whole_any g true false _ (by assumption) (by assumption)).mono ?_; rintro e w' ⟨rfl, rfl⟩)
          | (go_at_call 46; refine HB.out.mono ?_; rintro e w1 ⟨rfl, ⟨o1, c1', h1⟩, h2⟩)
          | (go_at_call 66; refine (take_ok g r o1 c1' _ 0 _ h1 (by simp)).mono ?_; rintro e w2 ⟨rfl, h3, h4⟩)
          | (go_at_call 70; refine (back_tp g r _ l _ o c _ h3 (hbs.out.keep (h2.trans h4 (by simp)) (by simp; exact hne.out))).mono ?_; rintro e w3 ⟨rfl, h5, h6⟩))
        go_ret
        exact ⟨rfl, h5, (h2.trans h4 (by simp)).trans h6 (by simp)⟩
      · have e : belowS (l, false) 2 0 = (0, (l, true)) := by
          rw [belowS, if_neg]
          intro hx
          exact hok ⟨hx.2.2.1, by simpa using hx.2.2.2.1⟩
        rw [e] at hB
        have HB := hid hB
        clear hB hok e
        go_enter Try.func45, Try.ntmps45
        go_wp2_with (first
          | (go_at_call 65; refine (whole_any g true false _ (by assumption) (by assumption)).mono ?_; rintro e w' ⟨rfl, rfl⟩)
          | (go_at_call 46; refine HB.out.mono ?_; rintro e w1 ⟨rfl, h1, h2⟩)
          | (go_at_call 66; refine (take_torn g r _ 0 _ h1).mono ?_; rintro e w2 ⟨rfl, h3, h4⟩)
          | (go_at_call 70; refine (back_tp g r _ l _ o c _ h3 (hbs.out.keep (h2.trans h4 (by simp)) (by simp; exact hne.out))).mono ?_; rintro e w3 ⟨rfl, h5, h6⟩))
        go_ret
        exact ⟨rfl, h5, (h2.trans h4 (by simp)).trans h6 (by simp)⟩
    · obtain ⟨m, rfl⟩ := Int.eq_ofNat_of_zero_le (Int.not_lt.1 hm)
      have hB := below_any g r (l, false) 2 m w h (by omega)
      have hm2 := be2_lt l
      by_cases hok : 2 ≤ l.length ∧ be (l.take 2) ≤ m
      · have e : belowS (l, false) 2 m = (be (l.take 2), (l.drop 2, false)) := by
          have : mayW 2 := by unfold mayW; omega
          rw [belowS, if_pos ⟨rfl, this, hok.1, hok.2, by simp; omega⟩]
          rfl
        rw [e] at hB
        by_cases hin : be (l.take 2) ≤ l.length - 2
        · have e : textS (l, false) m = ((l.drop 2).take (be (l.take 2)), (l.drop (2 + be (l.take 2)), false)) := by
            rw [textS, if_pos ⟨rfl, by omega, hok.1, by simp; omega, by simp; omega⟩]
          rw [e]
          clear e
          have hin2 : be (l.take 2) ≤ (l.drop 2).length := by simp; omega
          have hdd : l.drop (2 + be (l.take 2)) = (l.drop 2).drop (be (l.take 2)) := by simp
          rw [hdd]
          clear hdd
          generalize be (l.take 2) = n at *
          generalize l.drop 2 = l2 at *
          have HB := hid hB
          clear hB hok hm2 hin
          go_enter Try.func45, Try.ntmps45
          go_wp2_with (first
            | (go_at_call 65; refine (whole_any g true false _ (by assumption) (by assumption)).mono ?_; rintro e w' ⟨rfl, rfl⟩)
            | (go_at_call 46; refine HB.out.mono ?_; rintro e w1 ⟨rfl, ⟨o1, c1', h1⟩, h2⟩)
            | (go_at_call 66; refine (take_ok g r o1 c1' _ n _ h1 hin2).mono ?_; rintro e w2 ⟨rfl, h3, h4⟩)
            | (refine wp_str rfl _ rfl _ _ _ _ rfl ((h1.2.2.take n hin2).keep h4 (by simp; exact hne.out)) ?_))
          go_ret
          exact ⟨rfl, h3, h2.trans h4 (by simp)⟩
        · have e : textS (l, false) m = ([], (l, true)) := by rw [textS, if_neg]; intro hx; have := hx.2.2.2.2; simp at this; omega
          rw [e]
          clear e
          have hin2 : ((l.drop 2).length : Int) < (be (l.take 2) : Int) := by simp; omega
          generalize be (l.take 2) = n at *
          generalize l.drop 2 = l2 at *
          have HB := hid hB
          clear hB hok
          go_enter Try.func45, Try.ntmps45
          go_wp2_with (first
            | (go_at_call 65; refine (whole_any g true false _ (by assumption) (by assumption)).mono ?_; rintro e w' ⟨rfl, rfl⟩)
            | (go_at_call 46; refine HB.out.mono ?_; rintro e w1 ⟨rfl, h1, h2⟩)
            | (go_at_call 66; refine (take_bad g r _ n _ h1 (.inr hin2)).mono ?_; rintro e w2 ⟨rfl, h3, h4⟩)
            | (go_at_call 70; refine (back_tp g r _ l _ o c _ h3 (hbs.out.keep (h2.trans h4 (by simp)) (by simp; exact hne.out))).mono ?_; rintro e w3 ⟨rfl, h5, h6⟩))
          go_ret
          exact ⟨rfl, h5, (h2.trans h4 (by simp)).trans h6 (by simp)⟩
      · have e : belowS (l, false) 2 m = (0, (l, true)) := by
          rw [belowS, if_neg]
          intro hx
          exact hok ⟨hx.2.2.1, by simpa using hx.2.2.2.1⟩
        rw [e] at hB
        have e : textS (l, false) m = ([], (l, true)) := by
          rw [textS, if_neg]
          intro hx
          exact hok ⟨hx.2.2.1, by have := hx.2.2.2.1; simp at this; omega⟩
        rw [e]
        have HB := hid hB
        clear hB hok e hm2
        go_enter Try.func45, Try.ntmps45
        go_wp2_with (first
          | (go_at_call 65; refine (whole_any g true false _ (by assumption) (by assumption)).mono ?_; rintro e w' ⟨rfl, rfl⟩)
          | (go_at_call 46; refine HB.out.mono ?_; rintro e w1 ⟨rfl, h1, h2⟩)
          | (go_at_call 66; refine (take_torn g r _ 0 _ h1).mono ?_; rintro e w2 ⟨rfl, h3, h4⟩)
          | (go_at_call 70; refine (back_tp g r _ l _ o c _ h3 (hbs.out.keep (h2.trans h4 (by simp)) (by simp; exact hne.out))).mono ?_; rintro e w3 ⟨rfl, h5, h6⟩))
        go_ret
        exact ⟨rfl, h5, (h2.trans h4 (by simp)).trans h6 (by simp)⟩

set_option maxHeartbeats 400000 in
/-- Left. -/
theorem left_any (g r : Nat) (s : St) (w : World) (h : Tp w g r s) :
    Calls Try.prog 41 #[.pointer (some ⟨g, 0, none⟩)] w fun e w' => e = .returned (.int .i64 s.1.length) ∧ w = w' := by
  obtain ⟨o, c, h⟩ := h
  have c0 := h.c0
  go_enter Try.func41, Try.ntmps41
  go_wp2
  go_ret
  exact ⟨rfl, rfl⟩

set_option maxHeartbeats 400000 in
/-- Err. -/
theorem err_any (g r : Nat) (s : St) (w : World) (h : Tp w g r s) :
    Calls Try.prog 43 #[.pointer (some ⟨g, 0, none⟩)] w fun e w' => e = .returned (.int .i64 (errS s)) ∧ w = w' := by
  obtain ⟨o, c, h⟩ := h
  have c1 := h.c1
  have c2 := h.c2
  obtain ⟨l, t⟩ := s
  clear h
  cases t
  all_goals
    simp only at c2
    go_enter Try.func43, Try.ntmps43
    go_wp2
    go_ret
    exact ⟨rfl, rfl⟩

set_option maxHeartbeats 400000 in
/-- End. -/
theorem end_any (g r : Nat) (s : St) (w : World) (h : Tp w g r s) :
    Calls Try.prog 47 #[.pointer (some ⟨g, 0, none⟩)] w (TpTo w g r (.int .i64 (endS s).1) (endS s).2) := by
  have hE := err_any g r s w h
  obtain ⟨l, t⟩ := s
  have h' := h
  obtain ⟨o, c, hh⟩ := h'
  have c0 := hh.c0
  have f2 := hh.f 2
  have c2 := hh.c2
  have HH := hid hh
  have hmx : l.length ≤ 9223372036854775807 := h.len
  clear hh
  simp only at c0 c2
  cases t with
  | true =>
    have e : endS (l, true) = (4, (l, true)) := by simp [endS]
    rw [e]
    have HE : Hid (Calls Try.prog 43 #[.pointer (some ⟨g, 0, none⟩)] w fun e w' => e = .returned (.int .i64 4) ∧ w = w') := hE
    clear hE
    go_enter Try.func47, Try.ntmps47
    go_wp2_with (go_at_call 43; refine HE.out.mono ?_; rintro e w1 ⟨rfl, rfl⟩)
    go_ret
    exact ⟨rfl, h, Chg.refl _ _⟩
  | false =>
    have HE : Hid (Calls Try.prog 43 #[.pointer (some ⟨g, 0, none⟩)] w fun e w' => e = .returned (.int .i64 0) ∧ w = w') := hE
    clear hE
    cases l with
    | nil =>
      have e : endS ([], false) = (0, ([], false)) := by simp [endS]
      rw [e]
      go_enter Try.func47, Try.ntmps47
      go_wp2_with (go_at_call 43; refine HE.out.mono ?_; rintro e w1 ⟨rfl, rfl⟩)
      go_ret
      exact ⟨rfl, h, Chg.refl _ _⟩
    | cons b l =>
      have e : endS (b :: l, false) = (4, (b :: l, true)) := by simp [endS]
      rw [e]
      have hp : (0 : Int) < ((b :: l).length : Int) := by simp
      generalize b :: l = l1 at *
      go_enter Try.func47, Try.ntmps47
      go_wp2_with (go_at_call 43; refine HE.out.mono ?_; rintro e w1 ⟨rfl, rfl⟩)
      go_ret
      exact ⟨rfl, ⟨o, c, HH.out.set2 true⟩, set_chg _ _ _ _⟩
end Go.Proofs.Ytabdpebokpjljaa
