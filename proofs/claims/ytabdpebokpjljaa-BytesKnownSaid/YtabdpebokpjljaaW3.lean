/- Walks: the rest of the tape of package bytes: number, Num, Below, Text, Bytes, Left, Err, End answer as the plain functions of a tape say. -/
import Derived.Test.YtabdpebokpjljaaW2
namespace Go.Proofs.Ytabdpebokpjljaa
open Go.RowKit
theorem bits_or_u64_nat (a b : Nat) (ha : a < 18446744073709551616) (hb : b < 18446744073709551616) :
    bits .or .u64 (a : Int) (b : Int) = ((a ||| b : Nat) : Int) := by
  have h1 : (BitVec.ofInt 64 (a : Int)).toNat = a := by simp; omega
  have h2 : (BitVec.ofInt 64 (b : Int)).toNat = b := by simp; omega
  have h3 : a ||| b < 18446744073709551616 := Nat.or_lt_two_pow (n := 64) ha hb
  show IntKind.u64.wrap ((BitVec.ofInt 64 (a : Int) ||| BitVec.ofInt 64 (b : Int)).toNat : Int) = _
  rw [BitVec.toNat_or, h1, h2, IntKind.wrap_u64]
  omega
theorem be_step (a : Nat) (b : UInt8) (ha : a < 72057594037927936) :
    bits .or .u64 (IntKind.u64.wrap ((a : Int) * 256)) (IntKind.u64.wrap (b.toNat : Int)) = ((256 * a + b.toNat : Nat) : Int) := by
  have hb := b.toNat_lt
  have e1 : IntKind.u64.wrap ((a : Int) * 256) = ((2 ^ 8 * a : Nat) : Int) := by rw [IntKind.wrap_u64]; omega
  have e2 : IntKind.u64.wrap (b.toNat : Int) = (b.toNat : Int) := by rw [IntKind.wrap_u64]; omega
  rw [e1, e2, bits_or_u64_nat _ _ (by omega) (by omega), ← Nat.two_pow_add_eq_or_of_lt (by omega)]
theorem be_take_succ (l : List UInt8) (k : Nat) (h : k < l.length) : be (l.take (k + 1)) = 256 * be (l.take k) + l[k].toNat := by
  rw [List.take_succ_eq_append_getElem h, be_snoc]
theorem be_small (l : List UInt8) (h : l.length ≤ 7) : be l < 72057594037927936 := by
  have h1 := be_lt l
  have h2 : 256 ^ l.length ≤ 256 ^ 7 := Nat.pow_le_pow_right (by decide) h
  have h3 : (256 : Nat) ^ 7 = 72057594037927936 := by decide
  omega
theorem be_small8 (l : List UInt8) (h : l.length ≤ 8) : be l < 18446744073709551616 := by
  have h1 := be_lt l
  have h2 : 256 ^ l.length ≤ 256 ^ 8 := Nat.pow_le_pow_right (by decide) h
  have h3 : (256 : Nat) ^ 8 = 18446744073709551616 := by decide
  omega
set_option maxHeartbeats 400000 in
theorem number_any (r o n c : Nat) (l : List UInt8) (w : World) (hb : Bs w (some ⟨r, o, none⟩) n c l) (hl : l.length ≤ 8) :
    Calls Try.prog 67 #[.slice (some ⟨r, o, none⟩) n c] w fun e w' => e = .returned (.int .u64 (be l)) ∧ w = w' := by
  obtain rfl := hb.1
  go_enter Try.func67, Try.ntmps67
  go_wp2
  go_loop [3, 8] (fun v i => ∃ k : Nat, k ≤ l.length ∧ i = .int .i64 k ∧ v = .int .u64 (be (l.take k))) (fun _ i => l.length - (intOf i).toNat)
  case atStart => exact ⟨0, Nat.zero_le _, rfl, rfl⟩
  case round =>
    obtain ⟨k, hk, rfl, rfl⟩ := hrel
    by_cases hlt : k < l.length
    · have hc := hb.cell hlt
      unfold bv at hc
      have H := hid (be_step (be (l.take k)) l[k] (be_small _ (by simp; omega)))
      go_wp2
      go_round
      case rel => exact ⟨k + 1, by omega, by go_num, by rw [H.out, be_take_succ l k hlt]⟩
      case measure => simp [intOf]; omega
    · obtain rfl : k = l.length := by omega
      go_wp2
      go_ret
      exact ⟨rfl, rfl⟩

theorem mayW_nat {wd : Int} (h : mayW wd) : ∃ k : Nat, wd = k ∧ k ≤ 8 ∧ wd.toNat = k := ⟨wd.toNat, by unfold mayW at h; omega, by unfold mayW at h; omega, rfl⟩

set_option maxHeartbeats 400000 in
/-- Num. -/
theorem num_any (g r : Nat) (s : St) (wd : Int) (w : World) (h : Tp w g r s) :
    Calls Try.prog 39 #[.pointer (some ⟨g, 0, none⟩), .int .i64 wd] w (TpTo w g r (.int .u64 (numS s wd).1) (numS s wd).2) := by
  obtain ⟨l, t⟩ := s
  by_cases hw : mayW wd
  · cases t with
    | true =>
      have e : numS (l, true) wd = (0, (l, true)) := by simp [numS]
      rw [e]
      go_enter Try.func39, Try.ntmps39
      go_wp2_with (first
        | (go_at_call 63; refine (may_yes _ _ hw).mono ?_; rintro e w' ⟨rfl, rfl⟩)
        | (go_at_call 66; refine (take_torn g r l wd _ h).mono ?_; rintro e w' ⟨rfl, h1, h2⟩))
      go_ret
      exact ⟨rfl, h1, h2⟩
    | false =>
      by_cases hl : wd.toNat ≤ l.length
      · have e : numS (l, false) wd = (be (l.take wd.toNat), (l.drop wd.toNat, false)) := by simp [numS, hw, hl]
        rw [e]
        obtain ⟨k, rfl, hk8, hk⟩ := mayW_nat hw
        rw [hk] at hl ⊢
        obtain ⟨o, c, h⟩ := h
        simp only at h
        have hb := h.2.2.take k hl
        have hne := h.2.1
        go_enter Try.func39, Try.ntmps39
        go_wp2_with (first
          | (go_at_call 63; refine (may_yes _ _ hw).mono ?_; rintro e w' ⟨rfl, rfl⟩)
          | (go_at_call 66; refine (take_ok g r o c l k _ h hl).mono ?_; rintro e w' ⟨rfl, h1, h2⟩)
          | (go_at_call 67; refine (number_any r o k k (l.take k) _ (hb.keep h2 (by simp; exact hne)) (by simp; omega)).mono ?_; rintro e w' ⟨rfl, rfl⟩))
        go_ret
        exact ⟨rfl, h1, h2⟩
      · have e : numS (l, false) wd = (0, (l, true)) := by simp [numS, hl]
        rw [e]
        have hk : wd < 0 ∨ (l.length : Int) < wd := by unfold mayW at hw; omega
        go_enter Try.func39, Try.ntmps39
        go_wp2_with (first
          | (go_at_call 63; refine (may_yes _ _ hw).mono ?_; rintro e w' ⟨rfl, rfl⟩)
          | (go_at_call 66; refine (take_bad g r l wd _ h hk).mono ?_; rintro e w' ⟨rfl, h1, h2⟩))
        go_ret
        exact ⟨rfl, h1, h2⟩
  · have e : numS (l, t) wd = (0, (l, true)) := by simp [numS, hw]
    rw [e]
    go_enter Try.func39, Try.ntmps39
    go_wp2_with (first
      | (go_at_call 63; refine (may_no _ _ hw).mono ?_; rintro e w' ⟨rfl, rfl⟩)
      | (go_at_call 51; refine (tear_any g r (l, t) _ h).mono ?_; rintro e w' ⟨rfl, h1, h2⟩))
    go_ret
    exact ⟨rfl, h1, h2⟩
theorem back_tp (g r : Nat) (s : St) (l' : List UInt8) (n' o' c' : Nat) (w : World) (h : Tp w g r s) (hb : Bs w (some ⟨r, o', none⟩) n' c' l') :
    Calls Try.prog 70 #[.pointer (some ⟨g, 0, none⟩), .slice (some ⟨r, o', none⟩) n' c'] w (TpTo w g r (.tuple #[]) (l', true)) := by
  obtain ⟨o, c, h⟩ := h
  obtain rfl := hb.1
  exact back_any g r o c s.1 l' o' c' s.2 w h hb

theorem gt_false {a b : Nat} (h : a ≤ b) : decide ((b : Int) < (a : Int)) = false := by simp; omega

set_option maxHeartbeats 400000 in
/-- Below. -/
theorem below_any (g r : Nat) (s : St) (wd : Int) (most : Nat) (w : World) (h : Tp w g r s) (_hm : most < 18446744073709551616) :
    Calls Try.prog 46 #[.pointer (some ⟨g, 0, none⟩), .int .i64 wd, .int .u64 most] w (TpTo w g r (.int .i64 (belowS s wd most).1) (belowS s wd most).2) := by
  have hN := fun (W : World) (H : Tp W g r s) => num_any g r s wd W H
  obtain ⟨l, t⟩ := s
  have h' := h
  obtain ⟨o, c, hh⟩ := h'
  have c0 := hh.c0
  have c1 := hh.c1
  have c2 := hh.c2
  have hbs := hid hh.2.2
  have hne := hid hh.2.1
  simp only at c0 c2 hbs
  clear hh
  cases t with
  | true =>
    have e : belowS (l, true) wd most = (0, (l, true)) := by simp [belowS]
    rw [e]
    clear hN
    go_enter Try.func46, Try.ntmps46
    go_wp2_with (go_at_call 65; refine (whole_any g true true _ (by assumption) (by assumption)).mono ?_; rintro e w' ⟨rfl, rfl⟩)
    go_ret
    exact ⟨rfl, h, Chg.refl _ _⟩
  | false =>
    have hN' := hN w h
    clear hN
    by_cases hok : mayW wd ∧ wd.toNat ≤ l.length
    · have e : numS (l, false) wd = (be (l.take wd.toNat), (l.drop wd.toNat, false)) := by simp [numS, hok]
      rw [e] at hN'
      have HN := hid hN'
      clear hN'
      by_cases hle : be (l.take wd.toNat) ≤ most ∧ be (l.take wd.toNat) ≤ 4611686018427387904
      · have e : belowS (l, false) wd most = (be (l.take wd.toNat), (l.drop wd.toNat, false)) := by simp [belowS, hok, hle]
        rw [e]
        clear e
        obtain ⟨hle1, hle2⟩ := hle
        generalize be (l.take wd.toNat) = n at *
        generalize l.drop wd.toNat = l2 at *
        have d1 : (n : Int) ≤ 4611686018427387904 := by omega
        have d2 := gt_false hle1
        go_enter Try.func46, Try.ntmps46
        go_wp2_with (first
          | (go_at_call 65; refine (whole_any g true false _ (by assumption) (by assumption)).mono ?_; rintro e w' ⟨rfl, rfl⟩)
          | (go_at_call 39; refine HN.out.mono ?_; rintro e w1 ⟨rfl, h1, h2⟩))
        go_ret
        exact ⟨rfl, h1, h2⟩
      · have e : belowS (l, false) wd most = (0, (l, true)) := by
          rw [belowS, if_neg]
          intro hx
          exact hle ⟨hx.2.2.2.1, hx.2.2.2.2⟩
        rw [e]
        clear e
        generalize be (l.take wd.toNat) = n at *
        generalize l.drop wd.toNat = l2 at *
        by_cases hm : n ≤ most
        · have d1 : ¬ ((n : Int) ≤ 4611686018427387904) := by omega
          have d2 := gt_false hm
          go_enter Try.func46, Try.ntmps46
          go_wp2_with (first
            | (go_at_call 65; refine (whole_any g true false _ (by assumption) (by assumption)).mono ?_; rintro e w' ⟨rfl, rfl⟩)
            | (go_at_call 39; refine HN.out.mono ?_; rintro e w1 ⟨rfl, h1, h2⟩)
            | (go_at_call 70; refine (back_tp g r _ l _ o c _ h1 (hbs.out.keep h2 (by simp; exact hne.out))).mono ?_; rintro e w2 ⟨rfl, h3, h4⟩))
          go_ret
          exact ⟨rfl, h3, h2.trans h4 (by simp)⟩
        · have d1 : (most : Int) < (n : Int) := by omega
          go_enter Try.func46, Try.ntmps46
          go_wp2_with (first
            | (go_at_call 65; refine (whole_any g true false _ (by assumption) (by assumption)).mono ?_; rintro e w' ⟨rfl, rfl⟩)
            | (go_at_call 39; refine HN.out.mono ?_; rintro e w1 ⟨rfl, h1, h2⟩)
            | (go_at_call 70; refine (back_tp g r _ l _ o c _ h1 (hbs.out.keep h2 (by simp; exact hne.out))).mono ?_; rintro e w2 ⟨rfl, h3, h4⟩))
          go_ret
          exact ⟨rfl, h3, h2.trans h4 (by simp)⟩
    · have e : numS (l, false) wd = (0, (l, true)) := by
        rw [numS, if_neg]
        intro hx
        exact hok ⟨hx.2.1, hx.2.2⟩
      rw [e] at hN'
      have e : belowS (l, false) wd most = (0, (l, true)) := by
        rw [belowS, if_neg]
        intro hx
        exact hok ⟨hx.2.1, hx.2.2.1⟩
      rw [e]
      have HN := hid hN'
      clear hN' e
      have d2 : decide ((most : Int) < 0) = false := by simp
      go_enter Try.func46, Try.ntmps46
      go_wp2_with (first
        | (go_at_call 65; refine (whole_any g true false _ (by assumption) (by assumption)).mono ?_; rintro e w' ⟨rfl, rfl⟩)
        | (go_at_call 39; refine HN.out.mono ?_; rintro e w1 ⟨rfl, h1, h2⟩))
      go_ret
      exact ⟨rfl, h1, h2⟩
end Go.Proofs.Ytabdpebokpjljaa
