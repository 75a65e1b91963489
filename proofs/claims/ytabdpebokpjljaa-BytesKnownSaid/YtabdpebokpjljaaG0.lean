/- Slices that came in: elements of a fixed number of cells, read where they lie. -/
import Derived.Test.YtabdpebokpjljaaM
namespace Go.Proofs.Ytabdpebokpjljaa
open Go.RowKit

/-- The slice header (ao, n) holds the elements l, each as the cells 'fc' (sz of them). -/
structure AIn {α : Type} (fc : α → List Value) (sz : Nat) (ok : α → Prop) (w : World) (ao : Option Addr) (n : Nat) (l : List α) : Prop where
  len : n = l.length
  max : n ≤ 9223372036854775807
  cells : 0 < n → ∃ b o, ao = some ⟨b, o, none⟩ ∧ b < w.heap.size ∧ ∀ i f, l[i]? = some f → ∀ j u, (fc f)[j]? = some u → w.cell? ⟨b, o + i * sz + j, none⟩ = some u
  ok : ∀ f, f ∈ l → ok f

section
variable {α : Type} {fc : α → List Value} {sz : Nat} {ok : α → Prop} {w : World} {ao : Option Addr} {n : Nat} {l : List α}
theorem AIn.at (h : AIn fc sz ok w ao n l) {k : Nat} (hk : k < n) :
    ∃ b o f, ao = some ⟨b, o, none⟩ ∧ b < w.heap.size ∧ l[k]? = some f ∧ ok f ∧ ∀ W, Chg w W [] → ∀ j u, (fc f)[j]? = some u → W.cell? ⟨b, o + k * sz + j, none⟩ = some u := by
  have hl := h.len
  obtain ⟨b, o, e1, e2, e3⟩ := h.cells (by omega)
  have hg : l[k]? = some (l[k]'(by omega)) := List.getElem?_eq_getElem (by omega)
  refine ⟨b, o, _, e1, e2, hg, h.ok _ (List.mem_of_getElem? hg), fun W hc j u hu => ?_⟩
  rw [hc.cell e2 (by simp)]
  exact e3 _ _ hg _ _ hu
theorem AIn.keep {w' : World} (h : AIn fc sz ok w ao n l) (hc : Chg w w' []) : AIn fc sz ok w' ao n l :=
  ⟨h.len, h.max, fun hn => by
    obtain ⟨b, o, e1, e2, e3⟩ := h.cells hn
    exact ⟨b, o, e1, Nat.lt_of_lt_of_le e2 hc.size, fun i f hi j u hu => by rw [hc.cell e2 (by simp)]; exact e3 i f hi j u hu⟩, h.ok⟩
theorem AIn.upto (h : AIn fc sz ok w ao n l) {m : Nat} (hm : m ≤ n) : AIn fc sz ok w ao m (l.take m) := by
  have h1 := h.len
  have h2 := h.max
  refine ⟨by simp; omega, by omega, fun hn => ?_, fun f hf => h.ok f (List.mem_of_mem_take hf)⟩
  obtain ⟨b, o, e1, e2, e3⟩ := h.cells (by omega)
  refine ⟨b, o, e1, e2, fun i f hi => e3 i f ?_⟩
  rw [List.getElem?_take] at hi
  split at hi
  · exact hi
  · cases hi
end

/-- A list chosen index by index. -/
theorem choose_list {α : Type} : ∀ (n : Nat) (P : Nat → α → Prop), (∀ i, i < n → ∃ x, P i x) → ∃ l : List α, l.length = n ∧ ∀ i f, l[i]? = some f → P i f
  | 0, _, _ => ⟨[], rfl, fun _ _ h => by simp at h⟩
  | n + 1, P, h => by
    obtain ⟨x, hx⟩ := h 0 (by omega)
    obtain ⟨l, h1, h2⟩ := choose_list n (fun i => P (i + 1)) (fun i hi => h (i + 1) (by omega))
    refine ⟨x :: l, by simp [h1], fun i f hi => ?_⟩
    cases i with
    | zero => simp at hi; subst hi; exact hx
    | succ i => exact h2 i f (by simpa using hi)
end Go.Proofs.Ytabdpebokpjljaa
