/- The row's step for arguments of any kind: where nothing that was there has turned, every argument reads as it did; slices of numbers and of structs opened. -/
import Derived.Test.YtabdpebokpjljaaG0
import Derived.ProofKit
import Derived.OpenShut
import Derived.ShutString
import Derived.ChangeOld
import Derived.ChangeReads
import Derived.ChangeBears
import Derived.ReadAgain
import Derived.Deep.Slices
import Derived.Deep.Fields
import Derived.Lib.SmallJoins
namespace Go.Proofs.Ytabdpebokpjljaa
open Go.RowKit Go.ChangeShapes Go.WideShapes Go.Deep

section
variable {H : Type} {enc : TypeId × Value → H} {P : Program} {w w' : World} {base : Nat} {spare : Nat → Bool} {held : Bool}

theorem same_below (h : Below w.heap.size w w') {p : MemPlace} (hp : p.block < w.heap.size) : w.sameAt w' p := by
  cases p with
  | cell b o => exact World.cell?_of_block (w := w) (h.block b hp)
  | map b => exact h.block b hp

theorem carry_all (hb : Below w.heap.size w w') : ∀ {ts : List TypeId} {vs : List Value} {ds : List (DataW H)} {ps : List MemPlace}, DataW.TrodAll enc P w base spare held ts vs ds ps → DataW.TrodAll enc P w' base spare held ts vs ds ps
  | [], [], [], _, h => h
  | _ :: _, _ :: _, _ :: _, _, ⟨p, q, ⟨n, h1⟩, h2, e⟩ =>
    ⟨p, q, ⟨n, DataW.trod_carry n _ _ _ h1 fun x hx => same_below hb (DataW.trod_lt n _ _ _ h1 x hx)⟩, carry_all hb h2, e⟩

theorem args_back (hl : laidOutB P = true) (hm : mapsRowed P = true) (hz : ∀ t e, t < P.types.size → P.underlying t = some (.slice e) → 0 < P.cellsOf e) {ts : List TypeId} {vs : List Value} {ds : List (DataW H)} {ps : List MemPlace}
    (hT : ∀ t ∈ ts, t < P.types.size) (h : DataW.TrodAll enc P w 0 (fun _ => true) true ts vs ds ps) (hb : Below w.heap.size w w') : DataW.TrodAll enc P w' 0 (fun b => decide (b < w.heap.size)) true ts vs ds ps :=
  carry_all hb (DataW.TrodAll.respare (kids_rows hl hm) hz hT h fun p hp => by simpa using DataW.TrodAll.lt h p hp)

/-- A slice that came in, opened. -/
theorem open_in {α : Type} (fc : α → List Value) {sz : Nat} (ok : α → Prop) {r : Reach} {b0 : Nat} {t e : TypeId} {v : Value} {d : DataW H} {p : List MemPlace} (ht : P.underlying t = some (.slice e)) (hC : P.cellsOf e = sz) (hsz : 0 < sz)
    (hel : ∀ cs n x, DataW.trod enc P w base spare held n e cs = some x → ∃ f, fc f = cs ∧ ok f)
    (hv : Value.okWide P w r b0 t v) (h : DataW.Trod enc P w base spare held t v d p) : ∃ ao n c l, v = .slice ao n c ∧ AIn fc sz ok w ao n l := by
  obtain ⟨ao, n, c, rfl⟩ := okWide_slice ht hv
  refine ⟨ao, n, c, ?_⟩
  obtain ⟨fuel, hf⟩ := h
  rcases open_slice ht hf with ⟨h0, _⟩ | ⟨a, len, cap, m, k, D, Pl, hcs, hb, hl, hm, hmm, hx, hi⟩
  · have e0 : Value.slice ao n c = .slice none 0 0 := by simpa [Value.cells] using h0
    injection e0 with e1 e2 e3
    subst e1 e2 e3
    exact ⟨[], rfl, rfl, by omega, by omega, by simp⟩
  · have e0 : Value.slice ao n c = .slice (some a) len cap := by simpa [Value.cells] using hcs
    injection e0 with e1 e2 e3
    subst e1 e2 e3
    have hle : n ≤ m := by rw [hmm]; split <;> omega
    have hch : ∀ i, i < n → ∃ f, (∀ j u, (fc f)[j]? = some u → w.cell? (a.add (i * sz + j)) = some u) ∧ ok f := by
      intro i hin
      obtain ⟨cs', h1, h2⟩ := hi i (by omega)
      obtain ⟨f, hf1, hf2⟩ := hel _ _ _ h2
      rw [hC] at h1
      obtain ⟨_, hlen, hat⟩ := World.cells?_some h1
      refine ⟨f, fun j u hu => ?_, hf2⟩
      rw [hf1] at hu
      have hj := (List.getElem?_eq_some_iff.1 hu).1
      have := hat j (by omega)
      rw [hu, Go.Deep.add_add] at this
      exact this
    obtain ⟨l, hl1, hl2⟩ := choose_list n _ hch
    refine ⟨l, rfl, by omega, by unfold maxLen at hm; omega, fun hn => ?_, fun f hf => ?_⟩
    · have hl0 : l[0]? = some (l[0]'(by omega)) := List.getElem?_eq_getElem (by omega)
      obtain ⟨cs', h1, h2⟩ := hi 0 (by omega)
      obtain ⟨_, hlen, hat⟩ := World.cells?_some h1
      have h0 := hat 0 (by omega)
      rw [List.getElem?_eq_getElem (by omega), Go.Deep.add_add] at h0
      obtain ⟨b, o, sp⟩ := a
      have hsp : sp = none := by simpa [Addr.add] using World.cell?_spot h0
      subst hsp
      refine ⟨b, o, rfl, World.block_lt_of_cell? w _ (by rw [Addr.add_lit] at h0; exact h0), fun i f hif j u hu => ?_⟩
      have := (hl2 i f hif).1 j u hu
      rwa [Addr.add_lit, ← Nat.add_assoc] at this
    · obtain ⟨i, hi1⟩ := List.getElem?_of_mem hf
      exact (hl2 i f hi1).2

/-- A struct of two one-cell fields, in a row. -/
theorem fields2 {t : TypeId} {f0 f1 : Field} {fuel : Nat} {cs : List Value} {x : DataW H × List MemPlace} (hs : P.underlying t = some (.struct #[f0, f1])) (hone : oneCellFields P #[f0, f1] = true) (hC : P.cellsOf t = 2)
    (h : DataW.trod enc P w base spare held fuel t cs = some x) : ∃ c0 c1 n y0 y1, cs = [c0, c1] ∧ DataW.trod enc P w base spare held n f0.type [c0] = some y0 ∧ DataW.trod enc P w base spare held n f1.type [c1] = some y1 := by
  obtain ⟨xs, n, _, hx, hl, hlen, hg⟩ := DataW.trod_struct hs h
  obtain ⟨o0, k0⟩ := hone_of hone 0 f0 rfl
  obtain ⟨o1, k1⟩ := hone_of hone 1 f1 rfl
  rw [hC] at hl
  match cs, hl, xs, hlen with
  | [c0, c1], _, [y0, y1], _ => exact ⟨c0, c1, n, y0, y1, rfl, by simpa [o0, k0] using hg 0 f0 rfl, by simpa [o1, k1] using hg 1 f1 rfl⟩
theorem fields3 {t : TypeId} {f0 f1 f2 : Field} {fuel : Nat} {cs : List Value} {x : DataW H × List MemPlace} (hs : P.underlying t = some (.struct #[f0, f1, f2])) (hone : oneCellFields P #[f0, f1, f2] = true) (hC : P.cellsOf t = 3)
    (h : DataW.trod enc P w base spare held fuel t cs = some x) : ∃ c0 c1 c2 n y0 y1 y2, cs = [c0, c1, c2] ∧ DataW.trod enc P w base spare held n f0.type [c0] = some y0 ∧ DataW.trod enc P w base spare held n f1.type [c1] = some y1 ∧ DataW.trod enc P w base spare held n f2.type [c2] = some y2 := by
  obtain ⟨xs, n, _, hx, hl, hlen, hg⟩ := DataW.trod_struct hs h
  obtain ⟨o0, k0⟩ := hone_of hone 0 f0 rfl
  obtain ⟨o1, k1⟩ := hone_of hone 1 f1 rfl
  obtain ⟨o2, k2⟩ := hone_of hone 2 f2 rfl
  rw [hC] at hl
  match cs, hl, xs, hlen with
  | [c0, c1, c2], _, [y0, y1, y2], _ => exact ⟨c0, c1, c2, n, y0, y1, y2, rfl, by simpa [o0, k0] using hg 0 f0 rfl, by simpa [o1, k1] using hg 1 f1 rfl, by simpa [o2, k2] using hg 2 f2 rfl⟩
end
end Go.Proofs.Ytabdpebokpjljaa
