/- Walks: the tape of package bytes: NewTape, Tear, back, take, number, Num, Below, Text, Bytes, Left, Err, End answer as the plain functions of a tape say. -/
import Derived.Test.YtabdpebokpjljaaW1
namespace Go.Proofs.Ytabdpebokpjljaa
open Go.RowKit

/-! ### the tape in memory -/
/-- Block g is a tape made by NewTape: what is left lies in row r, from o on. -/
def TpH (w : World) (g r o c : Nat) (l : List UInt8) (t : Bool) : Prop :=
  w.heap[g]? = some (.cells #[.slice (some ⟨r, o, none⟩) l.length c, .bool true, .bool t] 78) ∧ r ≠ g ∧ Bs w (some ⟨r, o, none⟩) l.length c l

/-- Block g is a tape made by NewTape, in the state s; its bytes lie in row r. -/
def Tp (w : World) (g r : Nat) (s : St) : Prop := ∃ o c, TpH w g r o c s.1 s.2

theorem Bs.take {w : World} {r o n c : Nat} {l : List UInt8} (h : Bs w (some ⟨r, o, none⟩) n c l) (k : Nat) (hk : k ≤ n) : Bs w (some ⟨r, o, none⟩) k k (l.take k) := by
  obtain ⟨rfl, h2, h3, h4, h5, h6⟩ := h
  refine ⟨by simp; omega, Nat.le_refl _, by omega, by simp, h5, by simp; omega, by simp, fun x hx j u hu => h6.2.2 x hx j u ?_⟩
  rw [List.map_take, List.getElem?_take] at hu
  split at hu
  · exact hu
  · cases hu

theorem Bs.drop {w : World} {r o n c : Nat} {l : List UInt8} (h : Bs w (some ⟨r, o, none⟩) n c l) (k : Nat) (hk : k ≤ n) : Bs w (some ⟨r, if c = k then o else o + k, none⟩) (n - k) (c - k) (l.drop k) := by
  obtain ⟨rfl, h2, h3, h4, h5, h6⟩ := h
  have h5' := h5 _ rfl
  refine ⟨by simp, by omega, by omega, by simp, fun x hx => by obtain rfl := Option.some.inj hx; exact h5', by simp, by simp, fun x hx j u hu => ?_⟩
  obtain rfl := Option.some.inj hx
  have hj : j < l.length - k := by
    have := (List.getElem?_eq_some_iff.1 hu).1
    simpa using this
  rw [if_neg (by omega), Addr.add_lit, Nat.add_assoc, ← Addr.add_lit]
  refine h6.2.2 _ rfl (k + j) u ?_
  rwa [List.map_drop, List.getElem?_drop] at hu

section
variable {w : World} {g r o c : Nat} {l : List UInt8} {t : Bool}
theorem TpH.c0 (h : TpH w g r o c l t) : w.cell? ⟨g, 0, none⟩ = some (.slice (some ⟨r, o, none⟩) l.length c) := by rw [cell_of_row w g 0 _ _ _ h.1]; rfl
theorem TpH.c1 (h : TpH w g r o c l t) : w.cell? ⟨g, 1, none⟩ = some (.bool true) := by rw [cell_of_row w g 1 _ _ _ h.1]; rfl
theorem TpH.c2 (h : TpH w g r o c l t) : w.cell? ⟨g, 2, none⟩ = some (.bool t) := by rw [cell_of_row w g 2 _ _ _ h.1]; rfl
theorem TpH.f (h : TpH w g r o c l t) (i : Nat) : w.frozen? ⟨g, i, none⟩ = false := frozen_blk i h.1
theorem TpH.le (h : TpH w g r o c l t) : l.length ≤ c := h.2.2.2.1
theorem TpH.max (h : TpH w g r o c l t) : c ≤ 9223372036854775807 := h.2.2.2.2.1
theorem TpH.lt (h : TpH w g r o c l t) : g < w.heap.size := heap_lt h.1
theorem TpH.rlt (h : TpH w g r o c l t) : r < w.heap.size := (h.2.2.2.2.2.2.1 _ rfl).2
theorem TpH.set0 (h : TpH w g r o c l t) {o' c' : Nat} {l' : List UInt8} (hb : Bs w (some ⟨r, o', none⟩) l'.length c' l') :
    TpH (w.setCell ⟨g, 0, none⟩ (.slice (some ⟨r, o', none⟩) l'.length c')) g r o' c' l' t := by
  refine ⟨?_, h.2.1, hb.keep ((Chg.refl w [g]).setCell (by simp) _) (by simp; exact h.2.1)⟩
  rw [heap_set _ _ h.1]; rfl
theorem TpH.set2 (h : TpH w g r o c l t) (t' : Bool) : TpH (w.setCell ⟨g, 2, none⟩ (.bool t')) g r o c l t' := by
  refine ⟨?_, h.2.1, h.2.2.keep ((Chg.refl w [g]).setCell (by simp) _) (by simp; exact h.2.1)⟩
  rw [heap_set _ _ h.1]; rfl
theorem TpH.keep {w' : World} {S : List Nat} (h : TpH w g r o c l t) (hg : Chg w w' S) (h1 : g ∉ S) (h2 : r ∉ S) : TpH w' g r o c l t :=
  ⟨by rw [hg.block g h.lt h1]; exact h.1, h.2.1, h.2.2.keep hg (by simp; exact h2)⟩
end
theorem Tp.keep {w w' : World} {S : List Nat} {g r : Nat} {s : St} (h : Tp w g r s) (hg : Chg w w' S) (h1 : g ∉ S) (h2 : r ∉ S) : Tp w' g r s := by
  obtain ⟨o, c, h⟩ := h; exact ⟨o, c, h.keep hg h1 h2⟩
theorem Tp.lt {w : World} {g r : Nat} {s : St} (h : Tp w g r s) : g < w.heap.size ∧ r < w.heap.size ∧ r ≠ g := by
  obtain ⟨o, c, h⟩ := h; exact ⟨h.lt, h.rlt, h.2.1⟩
theorem Tp.len {w : World} {g r : Nat} {s : St} (h : Tp w g r s) : s.1.length ≤ 9223372036854775807 := by
  obtain ⟨o, c, h⟩ := h; exact Nat.le_trans h.le h.max
theorem set_chg (w : World) (g i : Nat) (v : Value) : Chg w (w.setCell ⟨g, i, none⟩ v) [g] := (Chg.refl w [g]).setCell (by simp) _

/-- What a call that changes the tape g leaves. -/
def TpTo (w : World) (g r : Nat) (v : Value) (s : St) (e : Ending) (w' : World) : Prop := e = .returned v ∧ Tp w' g r s ∧ Chg w w' [g]

/-- What NewTape leaves. -/
def NewTp (w : World) (l : List UInt8) (e : Ending) (w' : World) : Prop :=
  ∃ g r, e = .returned (.pointer (some ⟨g, 0, none⟩)) ∧ Tp w' g r (l, false) ∧ Chg w w' [] ∧ w.heap.size ≤ g ∧ w.heap.size ≤ r

set_option maxHeartbeats 400000 in
theorem newTape_any (ao : Option Addr) (n1 c : Nat) (l : List UInt8) (w : World) (hb : Bs w ao n1 c l) (hl : l.length ≤ 1000000) :
    Calls Try.prog 36 #[.slice ao n1 c] w (NewTp w l) := by
  obtain rfl := hb.1
  go_enter Try.func36, Try.ntmps36
  go_wp2_with (at_builtin; refine wp_app rfl _ _ rfl w.heap.size 0 0 [] rfl rfl (ow_empty w) ao l.length c l rfl (hb.alloc _).src (by simp; omega) ?_; intro g c' w1 hown hchg hor)
  go_ret
  have hB : w.heap.size ≤ g := by
    rcases hor with h | h
    · omega
    · simp at h; omega
  have hC : Chg w w1 [] := ((Chg.refl w []).alloc _).trans hchg (by simp)
  have hlt := hown.lt
  refine ⟨w1.heap.size, g, rfl, ⟨0, c', ?_, by omega, (hown.alloc _).bs⟩, hC.alloc _, hC.size, hB⟩
  exact heap_alloc_new w1 _

set_option maxHeartbeats 400000 in
theorem tear_any (g r : Nat) (s : St) (w : World) (h : Tp w g r s) : Calls Try.prog 51 #[.pointer (some ⟨g, 0, none⟩)] w (TpTo w g r (.tuple #[]) (s.1, true)) := by
  obtain ⟨o, c, h⟩ := h
  have c2 := h.c2
  have f2 := h.f 2
  go_enter Try.func51, Try.ntmps51
  go_wp2
  go_end0
  exact ⟨rfl, ⟨o, c, h.set2 true⟩, set_chg _ _ _ _⟩

set_option maxHeartbeats 400000 in
theorem back_any (g r o c : Nat) (l l' : List UInt8) (o' c' : Nat) (t : Bool) (w : World) (h : TpH w g r o c l t) (hb : Bs w (some ⟨r, o', none⟩) l'.length c' l') :
    Calls Try.prog 70 #[.pointer (some ⟨g, 0, none⟩), .slice (some ⟨r, o', none⟩) l'.length c'] w (TpTo w g r (.tuple #[]) (l', true)) := by
  have c0 := h.c0
  have f0 := h.f 0
  have h' := h.set0 hb
  have c2 := h.c2
  have f2 := h.f 2
  go_enter Try.func70, Try.ntmps70
  go_wp2
  go_end0
  exact ⟨rfl, ⟨o', c', h'.set2 true⟩, (set_chg _ _ _ _).trans (set_chg _ _ _ _) (by simp)⟩

set_option maxHeartbeats 400000 in
theorem take_ok (g r o c : Nat) (l : List UInt8) (k : Nat) (w : World) (h : TpH w g r o c l false) (hk : k ≤ l.length) :
    Calls Try.prog 66 #[.pointer (some ⟨g, 0, none⟩), .int .i64 k] w (TpTo w g r (.tuple #[.slice (some ⟨r, o, none⟩) k k, .bool true]) (l.drop k, false)) := by
  have c0 := h.c0
  have c1 := h.c1
  have c2 := h.c2
  have f0 := h.f 0
  have hle := h.le
  have hmx := h.max
  have hd := h.2.2.drop k hk
  have hl : (l.drop k).length = l.length - k := by simp
  have H : Hid (TpH (w.setCell ⟨g, 0, none⟩ (.slice (some ⟨r, if c = k then o else o + k, none⟩) (l.length - k) (c - k))) g r (if c = k then o else o + k) (c - k) (l.drop k) false) := by
    rw [← hl] at hd ⊢
    exact h.set0 hd
  clear hd hl h
  go_enter Try.func66, Try.ntmps66
  go_wp2_with (go_at_call 65; refine (whole_any g true false _ (by assumption) (by assumption)).mono ?_; rintro e w' ⟨rfl, rfl⟩)
  · have hck : c = k := by assumption
    go_ret2
    subst hck
    have H := H.out
    rw [if_pos rfl, Nat.sub_self] at H
    exact ⟨rfl, ⟨_, _, H⟩, set_chg _ _ _ _⟩
  · have hck : ¬ c = k := by assumption
    go_ret2
    have H := H.out
    rw [if_neg hck] at H
    exact ⟨rfl, ⟨_, _, H⟩, set_chg _ _ _ _⟩

set_option maxHeartbeats 400000 in
theorem take_torn (g r : Nat) (l : List UInt8) (k : Int) (w : World) (h : Tp w g r (l, true)) :
    Calls Try.prog 66 #[.pointer (some ⟨g, 0, none⟩), .int .i64 k] w (TpTo w g r (.tuple #[.slice none 0 0, .bool false]) (l, true)) := by
  have h' := h
  obtain ⟨o, c, h⟩ := h
  have c1 := h.c1
  have c2 := h.c2
  simp only at c2
  clear h
  go_enter Try.func66, Try.ntmps66
  go_wp2_with (go_at_call 65; refine (whole_any g true true _ (by assumption) (by assumption)).mono ?_; rintro e w' ⟨rfl, rfl⟩)
  go_ret2
  exact ⟨rfl, h', Chg.refl _ _⟩

set_option maxHeartbeats 400000 in
theorem take_bad (g r : Nat) (l : List UInt8) (k : Int) (w : World) (h : Tp w g r (l, false)) (hk : k < 0 ∨ l.length < k) :
    Calls Try.prog 66 #[.pointer (some ⟨g, 0, none⟩), .int .i64 k] w (TpTo w g r (.tuple #[.slice none 0 0, .bool false]) (l, true)) := by
  obtain ⟨o, c, h⟩ := h
  simp only at h
  have c0 := h.c0
  have c1 := h.c1
  have c2 := h.c2
  have f2 := h.f 2
  have hle := h.le
  have hmx := h.max
  have H := hid h
  clear h
  rcases hk with hk | hk
  · go_enter Try.func66, Try.ntmps66
    go_wp2_with (go_at_call 65; refine (whole_any g true false _ (by assumption) (by assumption)).mono ?_; rintro e w' ⟨rfl, rfl⟩)
    go_ret2
    exact ⟨rfl, ⟨o, c, H.out.set2 true⟩, set_chg _ _ _ _⟩
  · by_cases hk0 : k < 0
    · omega
    · go_enter Try.func66, Try.ntmps66
      go_wp2_with (go_at_call 65; refine (whole_any g true false _ (by assumption) (by assumption)).mono ?_; rintro e w' ⟨rfl, rfl⟩)
      go_ret2
      exact ⟨rfl, ⟨o, c, H.out.set2 true⟩, set_chg _ _ _ _⟩

end Go.Proofs.Ytabdpebokpjljaa
