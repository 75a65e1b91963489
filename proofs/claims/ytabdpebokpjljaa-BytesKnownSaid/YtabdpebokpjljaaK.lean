/- Plain words for memory: what changed between two worlds, rows that a call owns, slices that read as bytes; the law of append in these words. -/
import Derived.WalkKit
import Derived.WalkSpells
import Derived.WalkLawsBesides
import Derived.Laws.IdiomStrings
namespace Go.Proofs.Ytabdpebokpjljaa
open Go.RowKit

/-- A fact is hidden from the walk. -/
theorem hid {p : Prop} (h : p) : Hid p := h

/-! ### what changed -/
/-- w' is w but for the blocks in S and for new blocks. -/
structure Chg (w w' : World) (S : List Nat) : Prop where
  os : w'.os = w.os
  tape : w'.tape = w.tape
  output : w'.output = w.output
  size : w.heap.size ≤ w'.heap.size
  block : ∀ k, k < w.heap.size → k ∉ S → w'.heap[k]? = w.heap[k]?

theorem Chg.refl (w : World) (S : List Nat) : Chg w w S := ⟨rfl, rfl, rfl, Nat.le_refl _, fun _ _ _ => rfl⟩
theorem Chg.mono {w w' : World} {S T : List Nat} (h : Chg w w' S) (hs : ∀ k, k ∈ S → k < w.heap.size → k ∈ T) : Chg w w' T :=
  ⟨h.os, h.tape, h.output, h.size, fun k hk hn => h.block k hk (fun hm => hn (hs k hm hk))⟩
theorem Chg.trans {a b c : World} {S T : List Nat} (h : Chg a b S) (k : Chg b c T) (hT : ∀ i, i ∈ T → i < a.heap.size → i ∈ S) : Chg a c S :=
  ⟨k.os.trans h.os, k.tape.trans h.tape, k.output.trans h.output, Nat.le_trans h.size k.size,
    fun i hi hn => (k.block i (Nat.lt_of_lt_of_le hi h.size) (fun hm => hn (hT i hm hi))).trans (h.block i hi hn)⟩
theorem Chg.drew {w w' : World} {S : List Nat} (h : Chg w w' S) : Chg w w'.drew S := ⟨h.os, h.tape, h.output, h.size, h.block⟩
theorem Chg.drew' {w w' : World} {S : List Nat} (h : Chg w w' S) : Chg w.drew w' S := ⟨h.os, h.tape, h.output, h.size, h.block⟩
theorem Chg.alloc {w w' : World} {S : List Nat} (h : Chg w w' S) (o : Obj) : Chg w (w'.alloc o) S :=
  h.trans (T := []) ⟨rfl, rfl, rfl, by simp, fun k hk _ => Below.heap_alloc _ _ _ hk⟩ (fun _ hi _ => by simp at hi)
theorem Chg.setCell {w w' : World} {S : List Nat} (h : Chg w w' S) {p : Addr} (hp : p.block < w.heap.size → p.block ∈ S) (u : Value) : Chg w (w'.setCell p u) S :=
  h.trans (T := [p.block]) ⟨rfl, rfl, rfl, by simp [World.setCell], fun k _ hn => Below.heap_setCell _ _ _ _ (by simpa using hn)⟩ (fun i hi hl => by
    rw [List.mem_singleton] at hi; subst hi; exact hp hl)
theorem Chg.below {w0 w w' : World} {S : List Nat} (hb : Below w0.heap.size w0 w) (h : Chg w w' S) (hS : ∀ k, k ∈ S → w0.heap.size ≤ k) : Below w0.heap.size w0 w' :=
  hb.trans ⟨h.os, h.tape, h.output, h.size, fun k hk => h.block k (Nat.lt_of_lt_of_le hk hb.size) (fun hm => by have := hS k hm; omega)⟩
theorem Chg.below0 {w w' : World} (h : Chg w w' []) : Below w.heap.size w w' := h.below (Below.refl _ _) (by simp)
theorem Chg.then_below {w w1 w2 : World} (h : Chg w w1 []) (hb : Below w1.heap.size w1 w2) : Below w.heap.size w w2 := h.below0.trans (hb.mono h.size)
/-- A step that changes only what is newer than w. -/
theorem Chg.step {w w1 w2 : World} {S : List Nat} (h : Chg w w1 []) (h2 : Chg w1 w2 S) (hS : ∀ k, k ∈ S → w.heap.size ≤ k) : Chg w w2 [] :=
  h.trans h2 (fun i hi hl => by have := hS i hi; omega)
theorem Below.chg {w w' : World} (h : Below w.heap.size w w') (S : List Nat) : Chg w w' S := ⟨h.os, h.tape, h.output, h.size, fun k hk _ => h.block k hk⟩
theorem Chg.cell {w w' : World} {S : List Nat} (h : Chg w w' S) {p : Addr} (hp : p.block < w.heap.size) (hn : p.block ∉ S) : w'.cell? p = w.cell? p :=
  World.cell?_of_block (h.block _ hp hn)
theorem Chg.frozen {w w' : World} {S : List Nat} (h : Chg w w' S) {p : Addr} (hp : p.block < w.heap.size) (hn : p.block ∉ S) : w'.frozen? p = w.frozen? p :=
  World.frozen?_of_block (h.block _ hp hn)

/-! ### blocks and cells -/
theorem heap_lt {w : World} {g : Nat} {o : Obj} (h : w.heap[g]? = some o) : g < w.heap.size := (Array.getElem?_eq_some_iff.1 h).1
theorem frozen_blk {w : World} {g : Nat} {cs : Array Value} {t : TypeId} (i : Nat) (h : w.heap[g]? = some (.cells cs t (0, 0))) : w.frozen? ⟨g, i, none⟩ = false := by
  simp [World.frozen?, h]
theorem heap_set {w : World} {g : Nat} {cs : Array Value} {t : TypeId} {fr : Nat × Nat} (i : Nat) (v : Value) (h : w.heap[g]? = some (.cells cs t fr)) :
    (w.setCell ⟨g, i, none⟩ v).heap[g]? = some (.cells (cs.setIfInBounds i v) t fr) := by
  simp [World.setCell, Array.getElem?_modify, h]
theorem heap_set_ne {w : World} {g k : Nat} (i : Nat) (v : Value) (h : k ≠ g) : (w.setCell ⟨g, i, none⟩ v).heap[k]? = w.heap[k]? := Below.heap_setCell _ _ _ _ h

/-! ### rows that the call owns -/
/-- Block g is a row of capacity c of elements e (sz cells each) whose first n elements are the cells xs. -/
def Own (w : World) (e : TypeId) (sz : Nat) (g c n : Nat) (xs : List Value) : Prop :=
  ∃ cur : Array Value, w.heap[g]? = some (.cells cur e (0, 0)) ∧ n ≤ c ∧ c ≤ maxLen ∧ cur.size = c * sz ∧ xs.length = n * sz ∧ cur.toList.take (n * sz) = xs

/-- The slice header (ao, m) reads as the cells xs. -/
def Src (w : World) (sz : Nat) (ao : Option Addr) (m : Nat) (xs : List Value) : Prop :=
  xs.length = m * sz ∧ (ao = none → m = 0) ∧ ∀ x, ao = some x → ∀ j u, xs[j]? = some u → w.cell? (x.add j) = some u

theorem Own.lt {w : World} {e : TypeId} {sz g c n : Nat} {xs : List Value} (h : Own w e sz g c n xs) : g < w.heap.size := by
  obtain ⟨cur, h1, _⟩ := h; exact heap_lt h1
theorem Own.keep {w w' : World} {S : List Nat} {e : TypeId} {sz g c n : Nat} {xs : List Value} (h : Own w e sz g c n xs) (hg : Chg w w' S) (hn : g ∉ S) : Own w' e sz g c n xs := by
  have hl := h.lt
  obtain ⟨cur, h1, r⟩ := h
  exact ⟨cur, by rw [hg.block g hl hn]; exact h1, r⟩
theorem Own.of_heap {w w' : World} {e : TypeId} {sz g c n : Nat} {xs : List Value} (h : Own w e sz g c n xs) (hg : w'.heap[g]? = w.heap[g]?) : Own w' e sz g c n xs := by
  obtain ⟨cur, h1, r⟩ := h
  exact ⟨cur, by rw [hg]; exact h1, r⟩
theorem Own.cellAt {w : World} {e : TypeId} {sz g c n : Nat} {xs : List Value} (h : Own w e sz g c n xs) {j : Nat} {u : Value} (hu : xs[j]? = some u) : w.cell? ⟨g, j, none⟩ = some u := by
  obtain ⟨cur, h1, h2, h3, h4, h5, h6⟩ := h
  rw [cell_of_row w g j cur e (0, 0) h1]
  rw [← h6, List.getElem?_take] at hu
  split at hu
  · simpa using hu
  · cases hu
theorem Own.src {w : World} {e : TypeId} {sz g c n : Nat} {xs : List Value} (h : Own w e sz g c n xs) : Src w sz (some ⟨g, 0, none⟩) n xs := by
  have h' := h
  obtain ⟨cur, h1, h2, h3, h4, h5, h6⟩ := h
  refine ⟨h5, by simp, fun x hx j u hu => ?_⟩
  obtain rfl := Option.some.inj hx
  rw [Addr.add_lit, Nat.zero_add]
  exact h'.cellAt hu
theorem Own.frozenAt {w : World} {e : TypeId} {sz g c n : Nat} {xs : List Value} (h : Own w e sz g c n xs) (j : Nat) : w.frozen? ⟨g, j, none⟩ = false := by
  obtain ⟨cur, h1, _⟩ := h; exact frozen_blk j h1
theorem Src.keep {w w' : World} {S : List Nat} {sz m : Nat} {ao : Option Addr} {xs : List Value} (h : Src w sz ao m xs) (hg : Chg w w' S) (hn : ∀ x, ao = some x → x.block ∉ S) : Src w' sz ao m xs := by
  refine ⟨h.1, h.2.1, fun x hx j u hu => ?_⟩
  have hc := h.2.2 x hx j u hu
  have hb : (x.add j).block = x.block := by unfold Addr.add; split <;> rfl
  rw [hg.cell (World.block_lt_of_cell? w _ hc) (by rw [hb]; exact hn x hx)]
  exact hc
theorem Src.of_one {w : World} {g : Nat} {v : Value} (h : w.cell? ⟨g, 0, none⟩ = some v) : Src w 1 (some ⟨g, 0, none⟩) 1 [v] := by
  refine ⟨rfl, by simp, fun x hx j u hu => ?_⟩
  obtain rfl := Option.some.inj hx
  cases j with
  | zero => simp at hu; subst hu; simpa [Addr.add_lit] using h
  | succ j => simp at hu

section
variable {P : Program} (w : World)

/-- append onto a row that the call owns. -/
theorem run_app (t ty e : TypeId) (i : TypeInfo) (z : Value) (sz bytes : Nat) (ht : P.underlying t = some (.slice e)) (hi : P.info? e = some i) (hz : i.zero = some z)
    (hsize : i.size = sz) (hby : i.bytes = bytes) (hzs : z.cells.size = sz)
    (g c n : Nat) (xs : List Value) (hown : Own w e sz g c n xs) (ao : Option Addr) (m cx : Nat) (news : List Value) (hsrc : Src w sz ao m news) (h1 : ∀ u ∈ news, u.oneCell' = true)
    (h63 : n + m ≤ maxLen) (hbytes : (n + m) * bytes ≤ 140737488355328) :
    ∃ g' c' w', (Builtin.append_ #[t, t] ty #[.slice (some ⟨g, 0, none⟩) n c, .slice ao m cx]).run P w = .ok (.slice (some ⟨g', 0, none⟩) (n + m) c') w' ∧
      Own w' e sz g' c' (n + m) (xs ++ news) ∧ Chg w w' [g] ∧ (g' = g ∨ w.heap.size ≤ g') := by
  subst hsize
  subst hby
  have hown' := hown
  obtain ⟨cur, hg, hnc, hcm, hcs, hxl, htake⟩ := hown
  obtain ⟨hl, hnone, hsome⟩ := hsrc
  have hsmall : n + m ≤ 9223372036854775807 := by simp only [maxLen] at h63; omega
  have hlen : (xs ++ news).length = (n + m) * i.size := by rw [List.length_append, hxl, hl, Nat.add_mul]
  cases ao with
  | none =>
    obtain rfl := hnone rfl
    have hn : news = [] := List.eq_nil_of_length_eq_zero (by simpa using hl)
    subst hn
    refine ⟨g, c, w, ?_, by simpa using hown', Chg.refl _ _, .inl rfl⟩
    simp [Builtin.append_, run_underlying ht, sizeOf, typeInfo, hi, Builtin.lenOf, Builtin.firstCells, hnc, storeCells]
  | some a =>
    have hnews := hsome a rfl
    by_cases hroom : n + m ≤ c
    · have hfit : n * i.size + news.length ≤ cur.size := by rw [hl, hcs, ← Nat.add_mul]; exact Nat.mul_le_mul_right _ hroom
      have hr := run_append_room (P := P) w t ty e i ht hi g n c cur hg a m cx news hl hnews h1 hroom hfit
      refine ⟨g, c, _, hr, ⟨_, setRow_heap w g cur _ e _ hg, hroom, hcm, ?_, hlen, ?_⟩, ⟨rfl, rfl, rfl, by simp, fun k _ hk => setRow_other w g k _ (by simpa using hk)⟩, .inl rfl⟩
      · simp only [List.size_toArray, List.length_append, List.length_take, List.length_drop, Array.length_toList]
        omega
      · rw [htake, ← hlen]
        exact List.take_left
    · have hr := run_append_grow (P := P) w t ty e i z ht hi hz ⟨g, 0, none⟩ n c xs hxl (fun j u hu => by rw [Addr.add_lit, Nat.zero_add]; exact hown'.cellAt hu) a m cx news hl hnews (by omega) (by omega) (growslice_fits (by omega) hbytes)
      have hge := grownCap_ge w (n + m) c e
      have hcm' : grownCap w (n + m) c e ≤ maxLen := grownCap_le_maxLen w (n + m) c e h63
      refine ⟨w.heap.size, _, _, hr, ⟨_, heap_alloc_new w.drew _, hge, hcm', ?_, hlen, ?_⟩, ⟨rfl, rfl, rfl, by simp, fun k hk _ => Below.heap_alloc w.drew _ k hk⟩, .inr (Nat.le_refl _)⟩
      · simp only [Array.size_append, List.size_toArray, size_zeroCells, hzs, hxl, hl, ← Nat.add_mul]
        congr 1
        omega
      · simp only [Array.toList_append, List.append_assoc]
        rw [← List.append_assoc, ← hlen]
        exact List.take_left

/-- append onto nil. -/
theorem run_app_nil (t ty e : TypeId) (i : TypeInfo) (z : Value) (sz bytes : Nat) (ht : P.underlying t = some (.slice e)) (hi : P.info? e = some i) (hz : i.zero = some z)
    (hsize : i.size = sz) (hby : i.bytes = bytes) (hzs : z.cells.size = sz)
    (ao : Option Addr) (m cx : Nat) (news : List Value) (hsrc : Src w sz ao m news)
    (h63 : m ≤ maxLen) (hbytes : m * bytes ≤ 140737488355328) (hm : 0 < m) :
    ∃ g' c' w', (Builtin.append_ #[t, t] ty #[.slice none 0 0, .slice ao m cx]).run P w = .ok (.slice (some ⟨g', 0, none⟩) m c') w' ∧
      Own w' e sz g' c' m news ∧ Chg w w' [] ∧ w.heap.size ≤ g' := by
  subst hsize
  subst hby
  obtain ⟨hl, hnone, hsome⟩ := hsrc
  have hsmall : m ≤ 9223372036854775807 := by simp only [maxLen] at h63; omega
  cases ao with
  | none => have := hnone rfl; omega
  | some a =>
    have hnews := hsome a rfl
    have hr := run_append_nil (P := P) w t ty e i z ht hi hz a m cx news hl hnews hm (by omega) (by omega)
    have hge := grownCap_ge w m 0 e
    have hcm' : grownCap w m 0 e ≤ maxLen := grownCap_le_maxLen w m 0 e h63
    refine ⟨w.heap.size, _, _, hr, ⟨_, heap_alloc_new w.drew _, hge, hcm', ?_, hl, ?_⟩, ⟨rfl, rfl, rfl, by simp, fun k hk _ => Below.heap_alloc w.drew _ k hk⟩, Nat.le_refl _⟩
    · simp only [Array.size_append, List.size_toArray, size_zeroCells, hzs, hl, ← Nat.add_mul]
      congr 1
      omega
    · simp only [Array.toList_append]
      rw [← hl]
      exact List.take_left

theorem run_app_nil0 (t ty e : TypeId) (i : TypeInfo) (ht : P.underlying t = some (.slice e)) (hi : P.info? e = some i) (ao : Option Addr) (cx : Nat) :
    (Builtin.append_ #[t, t] ty #[.slice none 0 0, .slice ao 0 cx]).run P w = .ok (.slice none 0 0) w := by
  cases ao <;> simp [Builtin.append_, run_underlying ht, sizeOf, typeInfo, hi, Builtin.lenOf, Builtin.firstCells, loadCells, loadCellsFrom]
end

end Go.Proofs.Ytabdpebokpjljaa
