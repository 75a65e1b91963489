/- Walks: the reference's tape (caravanref04.Tape): step, Num, Bytes, Left, Err, End answer as the plain functions of a tape say. -/
import Derived.Test.YtabdpebokpjljaaR2
namespace Go.Proofs.Ytabdpebokpjljaa
open Go.RowKit

/-- Block g is the reference's tape: what is left lies in row r, from o on. -/
def TqH (w : World) (g r o c : Nat) (l : List UInt8) (t : Bool) : Prop :=
  w.heap[g]? = some (.cells #[.slice (some ⟨r, o, none⟩) l.length c, .bool t] 63) ∧ r ≠ g ∧ Bs w (some ⟨r, o, none⟩) l.length c l
/-- .. in the state s. -/
def Tq (w : World) (g r : Nat) (s : St) : Prop := ∃ o c, TqH w g r o c s.1 s.2

section
variable {w : World} {g r o c : Nat} {l : List UInt8} {t : Bool}
theorem TqH.c0 (h : TqH w g r o c l t) : w.cell? ⟨g, 0, none⟩ = some (.slice (some ⟨r, o, none⟩) l.length c) := by rw [cell_of_row w g 0 _ _ _ h.1]; rfl
theorem TqH.c1 (h : TqH w g r o c l t) : w.cell? ⟨g, 1, none⟩ = some (.bool t) := by rw [cell_of_row w g 1 _ _ _ h.1]; rfl
theorem TqH.f (h : TqH w g r o c l t) (i : Nat) : w.frozen? ⟨g, i, none⟩ = false := frozen_blk i h.1
theorem TqH.lt (h : TqH w g r o c l t) : g < w.heap.size := heap_lt h.1
theorem TqH.rlt (h : TqH w g r o c l t) : r < w.heap.size := (h.2.2.2.2.2.2.1 _ rfl).2
theorem TqH.set0 (h : TqH w g r o c l t) {o' c' : Nat} {l' : List UInt8} (hb : Bs w (some ⟨r, o', none⟩) l'.length c' l') :
    TqH (w.setCell ⟨g, 0, none⟩ (.slice (some ⟨r, o', none⟩) l'.length c')) g r o' c' l' t := by
  refine ⟨?_, h.2.1, hb.keep (set_chg _ _ _ _) (by simp; exact h.2.1)⟩
  rw [heap_set _ _ h.1]; rfl
theorem TqH.set1 (h : TqH w g r o c l t) (t' : Bool) : TqH (w.setCell ⟨g, 1, none⟩ (.bool t')) g r o c l t' := by
  refine ⟨?_, h.2.1, h.2.2.keep (set_chg _ _ _ _) (by simp; exact h.2.1)⟩
  rw [heap_set _ _ h.1]; rfl
theorem TqH.keep {w' : World} {S : List Nat} (h : TqH w g r o c l t) (hg : Chg w w' S) (h1 : g ∉ S) (h2 : r ∉ S) : TqH w' g r o c l t :=
  ⟨by rw [hg.block g h.lt h1]; exact h.1, h.2.1, h.2.2.keep hg (by simp; exact h2)⟩
end
theorem Tq.keep {w w' : World} {S : List Nat} {g r : Nat} {s : St} (h : Tq w g r s) (hg : Chg w w' S) (h1 : g ∉ S) (h2 : r ∉ S) : Tq w' g r s := by
  obtain ⟨o, c, h⟩ := h; exact ⟨o, c, h.keep hg h1 h2⟩
theorem Tq.lt {w : World} {g r : Nat} {s : St} (h : Tq w g r s) : g < w.heap.size ∧ r < w.heap.size ∧ r ≠ g := by
  obtain ⟨o, c, h⟩ := h; exact ⟨h.lt, h.rlt, h.2.1⟩

/-- What a call that changes the reference's tape g leaves. -/
def TqTo (w : World) (g r : Nat) (v : Value) (s : St) (e : Ending) (w' : World) : Prop := e = .returned v ∧ Tq w' g r s ∧ Chg w w' [g]
/-- What step leaves. -/
def SqTo (w : World) (g r : Nat) (b : List UInt8) (s : St) (e : Ending) (w' : World) : Prop :=
  ∃ ao c, e = .returned (.slice ao b.length c) ∧ Bs w' ao b.length c b ∧ Tq w' g r s ∧ Chg w w' [g] ∧ ∀ x, ao = some x → w.heap.size ≤ x.block

set_option maxHeartbeats 1000000 in
theorem rstep_any (g r : Nat) (s : St) (n : Int) (w : World) (h : Tq w g r s) (hl : s.1.length ≤ 1000000) :
    Calls Try.prog 77 #[.pointer (some ⟨g, 0, none⟩), .int .i64 n] w (SqTo w g r (bytesS s n).1 (bytesS s n).2) := by
  obtain ⟨l, t⟩ := s
  simp only at hl
  have h' := h
  obtain ⟨o, c, hh⟩ := h'
  have c0 := hh.c0
  have c1 := hh.c1
  have f0 := hh.f 0
  have f1 := hh.f 1
  have hlt := hh.lt
  have hle := hh.2.2.2.1
  have hmx := hh.2.2.2.2.1
  unfold maxLen at hmx
  have HH := hid hh
  simp only at c0 c1 hle HH
  clear hh
  cases t with
  | true =>
    have e : bytesS (l, true) n = ([], (l, true)) := by simp [bytesS]
    rw [e]
    go_enter Try.func77, Try.ntmps77
    go_wp2
    go_ret
    exact ⟨none, 0, rfl, Bs.nil _, h, Chg.refl _ _, by simp⟩
  | false =>
    have H := hid h
    clear h
    by_cases hok : 0 ≤ n ∧ n ≤ l.length
    · have e : bytesS (l, false) n = (l.take n.toNat, (l.drop n.toNat, false)) := by simp [bytesS, hok]
      rw [e]
      obtain ⟨k, rfl⟩ := Int.eq_ofNat_of_zero_le hok.1
      have hk : k ≤ l.length := by omega
      have hk' : (k : Int) ≤ (l.length : Int) := by omega
      clear hok e
      rw [Int.toNat_natCast]
      have hb := hid (HH.out.2.2.upto k hk)
      have hd := hid (HH.out.2.2.drop k hk)
      have hlt2 := hid (show (l.take k).length = k by simp; omega)
      have hld := hid (show (l.drop k).length = l.length - k by simp)
      generalize l.take k = lk at *
      go_enter Try.func77, Try.ntmps77
      go_wp2_with (at_builtin; (refine wp_appN rfl _ _ rfl rfl (some ⟨r, o, none⟩) k c lk rfl hb.out (by have := hlt2.out; omega) ?_); intro ao d w2 hB2 hc2
                   have g2 : w2.cell? ⟨g, 0, none⟩ = some (.slice (some ⟨r, o, none⟩) l.length c) := by { rw [hc2.cell hlt (by simp)]; exact c0 }
                   have f2 : w2.frozen? ⟨g, 0, none⟩ = false := by { rw [hc2.frozen hlt (by simp)]; exact f0 })
      all_goals
        go_ret
        have H2 := HH.out.keep hc2 (by simp) (by simp)
        have hd2 := hd.out.keep hc2 (by simp)
        rw [← hld.out] at hd2
        have H3 := H2.set0 hd2
        rw [hld.out] at H3
      · have hck : c = k := by assumption
        subst hck
        rw [if_pos rfl, Nat.sub_self] at H3
        refine ⟨ao, d, rfl, hB2.bs.keep (set_chg _ _ _ _) (fun x hx => ?_), ⟨_, _, H3⟩, (hc2.mono (by simp)).trans (set_chg _ _ _ _) (by simp), fun x hx => (hB2.block x hx).1⟩
        have := (hB2.block x hx).1
        simp
        omega
      · have hck : ¬ c = k := by assumption
        rw [if_neg hck] at H3
        refine ⟨ao, d, rfl, hB2.bs.keep (set_chg _ _ _ _) (fun x hx => ?_), ⟨_, _, H3⟩, (hc2.mono (by simp)).trans (set_chg _ _ _ _) (by simp), fun x hx => (hB2.block x hx).1⟩
        have := (hB2.block x hx).1
        simp
        omega
    · have e : bytesS (l, false) n = ([], (l, true)) := by rw [bytesS, if_neg]; intro hx; exact hok ⟨hx.2.1, hx.2.2⟩
      rw [e]
      clear e
      have H3 : Tq (w.setCell ⟨g, 1, none⟩ (.bool true)) g r (l, true) := ⟨o, c, HH.out.set1 true⟩
      have HH3 := hid H3
      clear H3
      by_cases hn : n < 0
      · clear hok
        go_enter Try.func77, Try.ntmps77
        go_wp2
        go_ret
        exact ⟨none, 0, rfl, Bs.nil _, HH3.out, set_chg _ _ _ _, by simp⟩
      · have hn1 : 0 ≤ n := by omega
        have hn2 : (l.length : Int) < n := by omega
        clear hok hn
        go_enter Try.func77, Try.ntmps77
        go_wp2
        go_ret
        exact ⟨none, 0, rfl, Bs.nil _, HH3.out, set_chg _ _ _ _, by simp⟩

theorem rbytes_any (g r : Nat) (s : St) (n : Int) (w : World) (h : Tq w g r s) (hl : s.1.length ≤ 1000000) :
    Calls Try.prog 74 #[.pointer (some ⟨g, 0, none⟩), .int .i64 n] w (SqTo w g r (bytesS s n).1 (bytesS s n).2) := by
  have HP := hid (rstep_any g r s n w h hl)
  clear h hl
  generalize bytesS s n = R at *
  go_enter Try.func74, Try.ntmps74
  go_wp2_with (go_at_call 77; refine HP.out.mono ?_; rintro e w2 ⟨ao, c, rfl, h1, h2, h3, h4⟩)
  go_ret
  exact ⟨ao, c, rfl, h1, h2, h3, h4⟩

set_option maxHeartbeats 400000 in
theorem rleft_any (g r : Nat) (s : St) (w : World) (h : Tq w g r s) :
    Calls Try.prog 42 #[.pointer (some ⟨g, 0, none⟩)] w fun e w' => e = .returned (.int .i64 s.1.length) ∧ w = w' := by
  obtain ⟨o, c, h⟩ := h
  have c0 := h.c0
  clear h
  go_enter Try.func42, Try.ntmps42
  go_wp2
  go_ret
  exact ⟨rfl, rfl⟩

set_option maxHeartbeats 400000 in
theorem rerr04_any (g r : Nat) (s : St) (w : World) (h : Tq w g r s) :
    Calls Try.prog 44 #[.pointer (some ⟨g, 0, none⟩)] w fun e w' => e = .returned (.int .i64 (errS s)) ∧ w = w' := by
  obtain ⟨o, c, h⟩ := h
  have c1 := h.c1
  obtain ⟨l, t⟩ := s
  clear h
  cases t
  all_goals
    simp only at c1
    go_enter Try.func44, Try.ntmps44
    go_wp2
    go_ret
    exact ⟨rfl, rfl⟩

set_option maxHeartbeats 400000 in
theorem rend_any (g r : Nat) (s : St) (w : World) (h : Tq w g r s) :
    Calls Try.prog 75 #[.pointer (some ⟨g, 0, none⟩)] w (TqTo w g r (.int .i64 (endS s).1) (endS s).2) := by
  obtain ⟨l, t⟩ := s
  obtain ⟨o, c, hh⟩ := h
  have c0 := hh.c0
  have c1 := hh.c1
  have f1 := hh.f 1
  have hle := hh.2.2.2.1
  have hmx := hh.2.2.2.2.1
  unfold maxLen at hmx
  simp only at c0 c1 hle hh
  cases l with
  | nil =>
    have hE := rerr04_any g r ([], t) w ⟨o, c, hh⟩
    have HE := hid hE
    have HH := hid hh
    have e : endS ([], t) = (errS ([], t), ([], t)) := by cases t <;> rfl
    rw [e]
    clear hE hh e
    go_enter Try.func75, Try.ntmps75
    go_wp2_with (go_at_call 44; refine HE.out.mono ?_; rintro e w1 ⟨rfl, rfl⟩)
    go_ret
    exact ⟨rfl, ⟨o, c, HH.out⟩, Chg.refl _ _⟩
  | cons b l =>
    have e : endS (b :: l, t) = (4, (b :: l, true)) := by simp [endS]
    rw [e]
    have hp : (0 : Int) < ((b :: l).length : Int) := by simp
    have hk := hh.set1 true
    have hE := rerr04_any g r (b :: l, true) _ ⟨o, c, hk⟩
    have HE : Hid (Calls Try.prog 44 #[.pointer (some ⟨g, 0, none⟩)] (w.setCell ⟨g, 1, none⟩ (.bool true)) fun e w' => e = .returned (.int .i64 4) ∧ w.setCell ⟨g, 1, none⟩ (.bool true) = w') := hE
    have HK := hid hk
    clear hE hh hk e
    generalize b :: l = l1 at *
    go_enter Try.func75, Try.ntmps75
    go_wp2_with (go_at_call 44; refine HE.out.mono ?_; rintro e w1 ⟨rfl, rfl⟩)
    go_ret
    exact ⟨rfl, ⟨o, c, HK.out⟩, set_chg _ _ _ _⟩

theorem be_small7 (l : List UInt8) (h : l.length ≤ 7) : be l ≤ 72057594037927935 := by have := be_small l h; omega
theorem num_wrap (N B : Nat) (h : N ≤ 72057594037927935) (hB : B ≤ 255) : IntKind.u64.wrap (IntKind.u64.wrap (256 * (N : Int)) + (B : Int)) = ((256 * N + B : Nat) : Int) := by
  rw [IntKind.wrap_u64, IntKind.wrap_u64]; omega

theorem numS_bytes (s : St) (wd : Int) : numS s wd = (be (bytesS s (if mayW wd then wd else -1)).1, (bytesS s (if mayW wd then wd else -1)).2) := by
  by_cases hw : mayW wd
  · rw [if_pos hw]
    have h0 : 0 ≤ wd := by unfold mayW at hw; omega
    unfold numS bytesS
    by_cases h1 : s.2 = false ∧ wd.toNat ≤ s.1.length
    · rw [if_pos ⟨h1.1, hw, h1.2⟩, if_pos ⟨h1.1, h0, by omega⟩]
    · rw [if_neg (fun hx => h1 ⟨hx.1, hx.2.2⟩), if_neg (fun hx => h1 ⟨hx.1, by omega⟩)]; rfl
  · rw [if_neg hw]
    unfold numS bytesS
    rw [if_neg (fun hx => hw hx.2.1), if_neg (fun hx => by omega)]; rfl
theorem bytes_short (s : St) (wd : Int) : (bytesS s (if mayW wd then wd else -1)).1.length ≤ 8 := by
  by_cases hw : mayW wd
  · rw [if_pos hw]
    unfold bytesS
    split
    · simp only [List.length_take]; unfold mayW at hw; omega
    · simp
  · rw [if_neg hw]
    unfold bytesS
    rw [if_neg (fun hx => by omega)]
    simp

set_option maxHeartbeats 1000000 in
theorem rn_any (g r : Nat) (s : St) (wd : Int) (w : World) (h : Tq w g r s) (hl : s.1.length ≤ 1000000) :
    Calls Try.prog 69 #[.pointer (some ⟨g, 0, none⟩), .int .i64 wd] w (TqTo w g r (.int .u64 (numS s wd).1) (numS s wd).2) := by
  have hP := rstep_any g r s (if mayW wd then wd else -1) w h hl
  have h8 := bytes_short s wd
  rw [numS_bytes]
  generalize bytesS s (if mayW wd then wd else -1) = R at *
  obtain ⟨lb, s'⟩ := R
  simp only at hP h8 ⊢
  clear h hl
  by_cases hw : mayW wd
  all_goals
    first | rw [if_pos hw] at hP | rw [if_neg hw] at hP
    have HP := hid hP
    have HW := hid hw
    clear hP hw
    go_enter Try.func69, Try.ntmps69
    go_wp2_with (first
      | (go_at_call 64; refine (rmay_yes _ _ HW.out).mono ?_; rintro e w' ⟨rfl, rfl⟩)
      | (go_at_call 64; refine (rmay_no _ _ HW.out).mono ?_; rintro e w' ⟨rfl, rfl⟩)
      | (go_at_call 77; refine HP.out.mono ?_; rintro e w2 ⟨ao, c, rfl, hb, h2, h3, _⟩))
    go_loop [6, 7] (fun v i => ∃ k : Nat, k ≤ lb.length ∧ i = .int .i64 k ∧ v = .int .u64 (be (lb.take k))) (fun _ i => lb.length - (intOf i).toNat)
    case atStart => exact ⟨0, by omega, rfl, rfl⟩
    case round =>
      obtain ⟨k, hk, rfl, rfl⟩ := hrel
      have hk8 : (lb.length : Int) ≤ 8 := by omega
      by_cases hlt : k < lb.length
      · obtain ⟨b, o, rfl, hbl, hcell⟩ := hb.src.form (by omega) (by decide)
        have hc := hcell k (bv lb[k]) (by simp [hlt])
        unfold bv at hc
        have H1 := hid (be_take_succ lb k hlt)
        have hN := be_small7 (lb.take k) (by simp; omega)
        have hB := lb[k].toNat_lt
        have hlt' : (k : Int) < (lb.length : Int) := by omega
        have H2 := hid (num_wrap (be (lb.take k)) lb[k].toNat hN (by omega))
        clear hcell hN hb
        generalize be (lb.take k) = N at *
        generalize lb[k].toNat = B at *
        go_wp2
        go_round
        case rel => exact ⟨k + 1, by omega, by go_num, by rw [H1.out, ← H2.out]⟩
        case measure => simp [intOf]; omega
      · obtain rfl : k = lb.length := by omega
        clear hb
        go_wp2
        go_ret
        exact ⟨rfl, h2, h3⟩
end Go.Proofs.Ytabdpebokpjljaa
