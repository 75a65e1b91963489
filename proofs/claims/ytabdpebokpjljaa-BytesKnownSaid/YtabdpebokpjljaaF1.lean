/- Walks: the reader of package frame: NewReader, err, Push, Held, Broken. -/
import Derived.Test.YtabdpebokpjljaaW6
import Derived.Test.YtabdpebokpjljaaN
namespace Go.Proofs.Ytabdpebokpjljaa
open Go.RowKit

/-- append of nothing onto nil, in the walk's form. -/
theorem wp_app_nil0 {ops : Array Oper} {rest : List Oper} {o : Oper} {a : Act} {w : World} {Q : Exit → Act → World → Prop} (hgd : o.guard = none) (s x : Operand)
    (ho : o.op = .call { callee := .builtin .append, args := #[s, x], argTypes := #[27, 27] }) (hs : a.eval s = .slice none 0 0)
    (ao : Option Addr) (m cx : Nat) (hx : a.eval x = .slice ao m cx) (hm : m = 0)
    (h : wpList Try.prog ops Q rest (a.put o.dst (.slice none 0 0)) w) :
    wpList Try.prog ops Q (o :: rest) a w := by
  subst hm
  obtain ⟨i, hi, hz0, hz1, hz2⟩ := info_parts info5
  have hr := run_app_nil0 (P := Try.prog) w 27 o.type 5 i Try.underlying27 hi ao cx
  refine wpList_plain hgd fun K hK => ?_
  unfold Oper.wp execOp
  simp only [ho, resolve, invoke, builtin, Sem.run_bind, Sem.run_pure, Result.andThen_ok, List.map_toArray, List.map_cons, List.map_nil, hs, hx, hr]
  exact hK _ _ h

/-- Block g is a reader made by NewReader that holds the bytes l; its row (none at the start) lies in the blocks xs. -/
def Rd (w : World) (g : Nat) (xs : List Nat) (l : List UInt8) (br : Bool) : Prop :=
  (xs = [] ∧ l = [] ∧ w.heap[g]? = some (.cells #[.slice none 0 0, .bool true, .bool br] 106)) ∨
  ∃ x c, xs = [x] ∧ x ≠ g ∧ w.heap[g]? = some (.cells #[.slice (some ⟨x, 0, none⟩) l.length c, .bool true, .bool br] 106) ∧ Ow w x c l

theorem Rd.lt {w : World} {g : Nat} {xs : List Nat} {l : List UInt8} {br : Bool} (h : Rd w g xs l br) : g < w.heap.size := by
  rcases h with ⟨_, _, h⟩ | ⟨x, c, _, _, h, _⟩ <;> exact heap_lt h
theorem Rd.ltx {w : World} {g : Nat} {xs : List Nat} {l : List UInt8} {br : Bool} (h : Rd w g xs l br) : ∀ x, x ∈ xs → x < w.heap.size ∧ x ≠ g := by
  rcases h with ⟨rfl, _, h⟩ | ⟨x, c, rfl, h1, h, h2⟩
  · simp
  · intro y hy; rw [List.mem_singleton] at hy; subst hy; exact ⟨h2.lt, h1⟩
theorem Rd.keep {w w' : World} {S : List Nat} {g : Nat} {xs : List Nat} {l : List UInt8} {br : Bool} (h : Rd w g xs l br) (hc : Chg w w' S) (h1 : g ∉ S) (h2 : ∀ x, x ∈ xs → x ∉ S) : Rd w' g xs l br := by
  have hl := h.lt
  rcases h with ⟨rfl, h3, h⟩ | ⟨x, c, rfl, h3, h, h4⟩
  · exact .inl ⟨rfl, h3, by rw [hc.block g hl h1]; exact h⟩
  · exact .inr ⟨x, c, rfl, h3, by rw [hc.block g hl h1]; exact h, h4.keep hc (h2 x (by simp))⟩
/-- The three cells of a reader. -/
theorem Rd.cells {w : World} {g : Nat} {xs : List Nat} {l : List UInt8} {br : Bool} (h : Rd w g xs l br) :
    (∃ ao c, w.cell? ⟨g, 0, none⟩ = some (.slice ao l.length c) ∧ Bs w ao l.length c l) ∧ w.cell? ⟨g, 1, none⟩ = some (.bool true) ∧ w.cell? ⟨g, 2, none⟩ = some (.bool br) ∧ ∀ i, w.frozen? ⟨g, i, none⟩ = false := by
  rcases h with ⟨rfl, rfl, h⟩ | ⟨x, c, rfl, h3, h, h4⟩
  · exact ⟨⟨none, 0, by rw [cell_of_row w g 0 _ _ _ h]; rfl, Bs.nil w⟩, by rw [cell_of_row w g 1 _ _ _ h]; rfl, by rw [cell_of_row w g 2 _ _ _ h]; rfl, fun i => frozen_blk i h⟩
  · exact ⟨⟨_, c, by rw [cell_of_row w g 0 _ _ _ h]; rfl, h4.bs⟩, by rw [cell_of_row w g 1 _ _ _ h]; rfl, by rw [cell_of_row w g 2 _ _ _ h]; rfl, fun i => frozen_blk i h⟩
theorem Rd.len {w : World} {g : Nat} {xs : List Nat} {l : List UInt8} {br : Bool} (h : Rd w g xs l br) : l.length ≤ 9223372036854775807 := by
  obtain ⟨⟨ao, c, _, hb⟩, _⟩ := h.cells
  have := hb.2.1; have := hb.2.2.1; unfold maxLen at *; omega
/-- The reader's first cell is set to a row of its own. -/
theorem Rd.set0 {w : World} {g : Nat} {xs : List Nat} {l : List UInt8} {br : Bool} (h : Rd w g xs l br) {x c : Nat} {l' : List UInt8} (ho : Ow w x c l') (hx : x ≠ g) :
    Rd (w.setCell ⟨g, 0, none⟩ (.slice (some ⟨x, 0, none⟩) l'.length c)) g [x] l' br := by
  have hk : Ow (w.setCell ⟨g, 0, none⟩ (.slice (some ⟨x, 0, none⟩) l'.length c)) x c l' := ho.keep (set_chg _ _ _ _) (by simp; exact hx)
  rcases h with ⟨rfl, rfl, h⟩ | ⟨y, d, rfl, h3, h, h4⟩
  all_goals exact .inr ⟨x, c, rfl, hx, by rw [heap_set _ _ h]; rfl, hk⟩
theorem Rd.mk0 {w : World} {g x c : Nat} {l' : List UInt8} {br : Bool} {v : Value} (h : w.heap[g]? = some (.cells #[v, .bool true, .bool br] 106)) (ho : Ow w x c l') (hx : x ≠ g) :
    Rd (w.setCell ⟨g, 0, none⟩ (.slice (some ⟨x, 0, none⟩) l'.length c)) g [x] l' br :=
  .inr ⟨x, c, rfl, hx, by rw [heap_set _ _ h]; rfl, ho.keep (set_chg _ _ _ _) (by simp; exact hx)⟩
theorem Rd.blk {w : World} {g : Nat} {xs : List Nat} {l : List UInt8} {br : Bool} (h : Rd w g xs l br) : ∃ v, w.heap[g]? = some (.cells #[v, .bool true, .bool br] 106) := by
  rcases h with ⟨_, _, h⟩ | ⟨x, c, _, _, h, _⟩ <;> exact ⟨_, h⟩
theorem Rd.set2 {w : World} {g : Nat} {xs : List Nat} {l : List UInt8} {br : Bool} (h : Rd w g xs l br) (b : Bool) : Rd (w.setCell ⟨g, 2, none⟩ (.bool b)) g xs l b := by
  rcases h with ⟨rfl, rfl, h⟩ | ⟨y, d, rfl, h3, h, h4⟩
  · exact .inl ⟨rfl, rfl, by rw [heap_set _ _ h]; rfl⟩
  · exact .inr ⟨y, d, rfl, h3, by rw [heap_set _ _ h]; rfl, h4.keep (set_chg _ _ _ _) (by simp; exact h3)⟩

set_option maxHeartbeats 400000 in
theorem newReader_any (w : World) : Calls Try.prog 20 #[] w fun e w' => ∃ g, e = .returned (.pointer (some ⟨g, 0, none⟩)) ∧ Rd w' g [] [] false ∧ Chg w w' [] ∧ w.heap.size ≤ g := by
  go_enter Try.func20, Try.ntmps20
  go_wp2
  go_ret
  exact ⟨w.heap.size, rfl, .inl ⟨rfl, rfl, heap_alloc_new w _⟩, (Chg.refl w []).alloc _, Nat.le_refl _⟩

set_option maxHeartbeats 400000 in
theorem rerr_any (g : Nat) (br : Bool) (w : World) (c1 : w.cell? ⟨g, 1, none⟩ = some (.bool true)) (c2 : w.cell? ⟨g, 2, none⟩ = some (.bool br)) :
    Calls Try.prog 61 #[.pointer (some ⟨g, 0, none⟩)] w fun e w' => e = .returned (.int .i64 (if br then 4 else 0)) ∧ w = w' := by
  cases br
  all_goals
    go_enter Try.func61, Try.ntmps61
    go_wp2
    go_ret
    exact ⟨rfl, rfl⟩

set_option maxHeartbeats 400000 in
theorem held_any (g : Nat) (xs : List Nat) (l : List UInt8) (br : Bool) (w : World) (h : Rd w g xs l br) :
    Calls Try.prog 22 #[.pointer (some ⟨g, 0, none⟩)] w fun e w' => e = .returned (.int .i64 l.length) ∧ w = w' := by
  obtain ⟨⟨ao, c, c0, hb⟩, c1, c2, hf⟩ := h.cells
  clear c1 c2 hf hb
  go_enter Try.func22, Try.ntmps22
  go_wp2
  go_ret
  exact ⟨rfl, rfl⟩

set_option maxHeartbeats 400000 in
theorem broken_any (g : Nat) (xs : List Nat) (l : List UInt8) (br : Bool) (w : World) (h : Rd w g xs l br) :
    Calls Try.prog 27 #[.pointer (some ⟨g, 0, none⟩)] w fun e w' => e = .returned (.bool br) ∧ w = w' := by
  obtain ⟨⟨ao, c, c0, hb⟩, c1, c2, hf⟩ := h.cells
  have hp := rerr_any g br w c1 c2
  have HP := hid hp
  clear hp c0 c1 c2 hf hb
  cases br
  all_goals
    have HP := HP.out
    simp only [if_true, Bool.false_eq_true, if_false] at HP
    have HP := hid HP
    go_enter Try.func27, Try.ntmps27
    go_wp2_with (go_at_call 61; refine HP.out.mono ?_; rintro e w1 ⟨rfl, rfl⟩)
    go_ret
    exact ⟨rfl, rfl⟩

/-- What Push answers, and what the reader holds then. -/
def pushS (l : List UInt8) (br : Bool) (b : List UInt8) : Int × List UInt8 × Bool :=
  if br then (4, l, br) else if 131072 < l.length + b.length then (3, l, false) else (0, l ++ b, false)

/-- What a call that changes the reader leaves. -/
def RdTo (w : World) (g : Nat) (xs : List Nat) (v : Value) (l : List UInt8) (br : Bool) (e : Ending) (w' : World) : Prop :=
  e = .returned v ∧ ∃ xs', Rd w' g xs' l br ∧ Chg w w' (g :: xs) ∧ ∀ x, x ∈ xs' → x ∈ xs ∨ w.heap.size ≤ x

theorem rdTo_same {w : World} {g : Nat} {xs : List Nat} {v : Value} {l : List UInt8} {br : Bool} (h : Rd w g xs l br) : RdTo w g xs v l br (.returned v) w :=
  ⟨rfl, xs, h, Chg.refl _ _, fun _ hx => .inl hx⟩

set_option maxHeartbeats 1000000 in
theorem push_any (g : Nat) (xs : List Nat) (l : List UInt8) (br : Bool) (ao : Option Addr) (n c : Nat) (b : List UInt8) (w : World) (h : Rd w g xs l br) (hb : Bs w ao n c b) (hl : l.length ≤ 1000000) (hbl : b.length ≤ 1000000) :
    Calls Try.prog 21 #[.pointer (some ⟨g, 0, none⟩), .slice ao n c] w (RdTo w g xs (.int .i64 (pushS l br b).1) (pushS l br b).2.1 (pushS l br b).2.2) := by
  obtain rfl := hb.1
  have h' := h
  obtain ⟨⟨bo, d, c0, hbo⟩, c1, c2, hf⟩ := h.cells
  have hp := rerr_any g br w c1 c2
  have HP := hid hp
  have f0 := hf 0
  clear hp c1 c2 hf
  cases br with
  | true =>
    have e : pushS l true b = (4, l, true) := by simp [pushS]
    rw [e]
    have HP := HP.out
    rw [if_pos rfl] at HP
    have HP := hid HP
    go_enter Try.func21, Try.ntmps21
    go_wp2_with (go_at_call 61; refine HP.out.mono ?_; rintro e w1 ⟨rfl, rfl⟩)
    go_ret
    exact rdTo_same h
  | false =>
    have HP := HP.out
    simp only [Bool.false_eq_true, if_false] at HP
    have HP := hid HP
    by_cases hfull : 131072 < l.length + b.length
    · have e : pushS l false b = (3, l, false) := by simp [pushS, hfull]
      rw [e]
      have d1 : (131072 : Int) - (l.length : Int) < (b.length : Int) := by omega
      clear e hfull hbo
      go_enter Try.func21, Try.ntmps21
      go_wp2_with (go_at_call 61; refine HP.out.mono ?_; rintro e w1 ⟨rfl, rfl⟩)
      go_ret
      exact rdTo_same h
    · have e : pushS l false b = (0, l ++ b, false) := by simp [pushS, hfull]
      rw [e]
      have d1 : ¬ ((131072 : Int) - (l.length : Int) < (b.length : Int)) := by omega
      clear e hfull hbo
      rcases h with ⟨rfl, rfl, hblk⟩ | ⟨x, c3, rfl, hx, hblk, hown⟩
      · have e0 : w.cell? ⟨g, 0, none⟩ = some (.slice none 0 0) := by rw [cell_of_row w g 0 _ _ _ hblk]; rfl
        rw [c0] at e0
        injection e0 with e0
        injection e0 with e1 e2 e3
        subst e1 e3
        have hg := h'.lt
        have H := hid h'
        clear h' hblk e2
        by_cases hb0 : b.length = 0
        · have hbn : b = [] := List.eq_nil_of_length_eq_zero hb0
          subst hbn
          go_enter Try.func21, Try.ntmps21
          go_wp2_with (first
            | (go_at_call 61; refine HP.out.mono ?_; rintro e w1 ⟨rfl, rfl⟩)
            | (at_builtin; refine wp_app_nil0 rfl _ _ rfl rfl ao _ c rfl rfl ?_))
          go_ret
          refine ⟨rfl, [], ?_, set_chg _ _ _ _, by simp⟩
          obtain ⟨v, hblk⟩ := H.out.blk
          exact .inl ⟨rfl, rfl, by rw [heap_set _ _ hblk]; rfl⟩
        · go_enter Try.func21, Try.ntmps21
          go_wp2_with (first
            | (go_at_call 61; refine HP.out.mono ?_; rintro e w1 ⟨rfl, rfl⟩)
            | (at_builtin; refine wp_app_nil rfl _ _ rfl rfl ao _ c b rfl hb.src (by omega) (by omega) ?_; intro x c4 w2 hown2 hchg2 hge2; have f2 : w2.frozen? ⟨g, 0, none⟩ = false := by { rw [hchg2.frozen hg (by simp)]; exact f0 }; have g2 : w2.cell? ⟨g, 0, none⟩ = some (.slice none 0 0) := by { rw [hchg2.cell hg (by simp)]; exact c0 }))
          go_ret
          have hk := H.out.keep hchg2 (by simp) (by simp)
          refine ⟨rfl, [x], hk.set0 hown2 (by omega), ((hchg2.mono (T := [g]) (by simp)).trans (set_chg _ _ _ _) (by simp)), ?_⟩
          intro y hy
          rw [List.mem_singleton] at hy
          right
          omega
      · have e0 : w.cell? ⟨g, 0, none⟩ = some (.slice (some ⟨x, 0, none⟩) l.length c3) := by rw [cell_of_row w g 0 _ _ _ hblk]; rfl
        rw [c0] at e0
        injection e0 with e0
        injection e0 with e1 e2 e3
        subst e1 e3
        have hg := h'.lt
        have hxl := hown.lt
        have H := hid h'
        clear h' hblk e2
        go_enter Try.func21, Try.ntmps21
        go_wp2_with (first
          | (go_at_call 61; refine HP.out.mono ?_; rintro e w1 ⟨rfl, rfl⟩)
          | (at_builtin; refine wp_app rfl _ _ rfl x d l.length l rfl rfl hown ao _ c b rfl hb.src (by omega) ?_; intro y c4 w2 hown2 hchg2 hor2; have f2 : w2.frozen? ⟨g, 0, none⟩ = false := by { rw [hchg2.frozen hg (by simp; exact fun h => hx h.symm)]; exact f0 }; have g2 : w2.cell? ⟨g, 0, none⟩ = some (.slice (some ⟨x, 0, none⟩) l.length d) := by { rw [hchg2.cell hg (by simp; exact fun h => hx h.symm)]; exact c0 }))
        go_ret
        have hy : y ≠ g := by rcases hor2 with h | h <;> omega
        obtain ⟨v, hblk⟩ := H.out.blk
        have hblk2 : w2.heap[g]? = some (.cells #[v, .bool true, .bool false] 106) := by rw [hchg2.block g hg (by simp; exact fun h => hx h.symm)]; exact hblk
        have hr := Rd.mk0 hblk2 hown2 hy
        rw [List.length_append] at hr
        refine ⟨rfl, [y], hr, ((hchg2.mono (T := [g, x]) (by simp)).trans (set_chg _ _ _ _) (by simp)), ?_⟩
        intro z hz
        rw [List.mem_singleton] at hz
        subst hz
        rcases hor2 with h | h
        · left; simp [h]
        · right; exact h
end Go.Proofs.Ytabdpebokpjljaa
