/- Rows of numbers (uint64): append, and what Row takes of a tape, in plain words. -/
import Derived.Test.YtabdpebokpjljaaR5
namespace Go.Proofs.Ytabdpebokpjljaa
open Go.RowKit

/-- A number's cell. -/
def uv (n : Nat) : Value := .int .u64 n
theorem info45 : (Try.prog.info? 45).map (fun i => (i.zero, i.size, i.bytes)) = some (some (.int .u64 0), 1, 8) := by kernel_rfl
/-- A row of numbers of the call's own, made since w0, or nil. -/
def Uw (w0 w : World) (ao : Option Addr) (n c : Nat) (l : List Nat) : Prop :=
  (ao = none ∧ n = 0 ∧ c = 0 ∧ l = []) ∨ ∃ g, ao = some ⟨g, 0, none⟩ ∧ n = l.length ∧ Own w 45 1 g c n (l.map uv) ∧ w0.heap.size ≤ g
theorem Uw.nil (w0 w : World) : Uw w0 w none 0 0 [] := .inl ⟨rfl, rfl, rfl, rfl⟩
theorem Uw.len {w0 w : World} {ao : Option Addr} {n c : Nat} {l : List Nat} (h : Uw w0 w ao n c l) : n = l.length := by
  rcases h with ⟨_, h, _, rfl⟩ | ⟨_, _, h, _⟩
  · exact h
  · exact h
theorem Uw.keep {w0 w w' : World} {ao : Option Addr} {n c : Nat} {l : List Nat} {S : List Nat} (h : Uw w0 w ao n c l) (hc : Chg w w' S) (hS : ∀ x, ao = some x → x.block ∉ S) : Uw w0 w' ao n c l := by
  rcases h with h | ⟨g, rfl, h1, h2, h3⟩
  · exact .inl h
  · exact .inr ⟨g, rfl, h1, h2.keep hc (hS _ rfl), h3⟩
theorem Uw.block {w0 w : World} {ao : Option Addr} {n c : Nat} {l : List Nat} (h : Uw w0 w ao n c l) : ∀ x, ao = some x → w0.heap.size ≤ x.block ∧ x.block < w.heap.size := by
  rcases h with ⟨rfl, rfl, rfl, rfl⟩ | ⟨g, rfl, rfl, h2, h3⟩
  · simp
  · intro x hx; obtain rfl := Option.some.inj hx; exact ⟨h3, h2.lt⟩
theorem Uw.cellAt {w0 w : World} {ao : Option Addr} {n c : Nat} {l : List Nat} (h : Uw w0 w ao n c l) {k : Nat} (hk : k < n) :
    ∃ g v, ao = some ⟨g, 0, none⟩ ∧ l[k]? = some v ∧ w.cell? ⟨g, k, none⟩ = some (.int .u64 v) := by
  rcases h with ⟨_, h1, _, _⟩ | ⟨g, rfl, h1, h2, _⟩
  · omega
  · exact ⟨g, l[k]'(by omega), rfl, List.getElem?_eq_getElem (by omega), h2.cellAt (by simp [uv, show k < l.length by omega])⟩

/-- append of one number, in the walk's form. -/
theorem wp_appU {ops : Array Oper} {rest : List Oper} {o : Oper} {a : Act} {w : World} {Q : Exit → Act → World → Prop} (hgd : o.guard = none) (s x : Operand)
    (ho : o.op = .call { callee := .builtin .append, args := #[s, x], argTypes := #[64, 64] })
    (w0 : World) (ao : Option Addr) (n c : Nat) (l : List Nat) (hs : a.eval s = .slice ao n c) (hw : Uw w0 w ao n c l) (hw0 : w0.heap.size ≤ w.heap.size)
    (v : Nat) (g2 : Nat) (hx : a.eval x = .slice (some ⟨g2, 0, none⟩) 1 1) (h0 : w.cell? ⟨g2, 0, none⟩ = some (.int .u64 v)) (hmax : l.length ≤ 1000000)
    (h : ∀ ao' c' w' S, Uw w0 w' ao' (n + 1) c' (l ++ [v]) → Chg w w' S → (∀ k, k ∈ S → ∃ x, ao = some x ∧ x.block = k) → (∀ x, ao' = some x → ao = some x ∨ w.heap.size ≤ x.block) → wpList Try.prog ops Q rest (a.put o.dst (.slice ao' (n + 1) c')) w') :
    wpList Try.prog ops Q (o :: rest) a w := by
  obtain ⟨i, hi, hz0, hz1, hz2⟩ := info_parts info45
  have hsrc : Src w 1 (some ⟨g2, 0, none⟩) 1 [uv v] := Src.of_one h0
  have hone : ∀ u ∈ [uv v], u.oneCell' = true := by simp [uv, Value.oneCell']
  rcases hw with ⟨rfl, rfl, rfl, rfl⟩ | ⟨g, rfl, rfl, hown, hge⟩
  · obtain ⟨g', c', w', hr, h2, h3, h4⟩ := run_app_nil (P := Try.prog) w 64 o.type 45 i (.int .u64 0) 1 8 Try.underlying64 hi hz0 hz1 hz2 rfl (some ⟨g2, 0, none⟩) 1 1 _ hsrc (by unfold maxLen; omega) (by omega) (by omega)
    refine wpList_plain hgd fun K hK => ?_
    unfold Oper.wp execOp
    simp only [ho, resolve, invoke, builtin, Sem.run_bind, Sem.run_pure, Result.andThen_ok, List.map_toArray, List.map_cons, List.map_nil, hs, hx, hr]
    exact hK _ _ (h (some ⟨g', 0, none⟩) c' w' [] (.inr ⟨g', rfl, rfl, by simpa using h2, by omega⟩) h3 (by simp) (fun x hx => .inr (by obtain rfl := Option.some.inj hx; exact h4)))
  · obtain ⟨g', c', w', hr, h2, h3, h4⟩ := run_app (P := Try.prog) w 64 o.type 45 i (.int .u64 0) 1 8 Try.underlying64 hi hz0 hz1 hz2 rfl g c _ _ hown (some ⟨g2, 0, none⟩) 1 1 _ hsrc hone (by unfold maxLen; omega) (by omega)
    refine wpList_plain hgd fun K hK => ?_
    unfold Oper.wp execOp
    simp only [ho, resolve, invoke, builtin, Sem.run_bind, Sem.run_pure, Result.andThen_ok, List.map_toArray, List.map_cons, List.map_nil, hs, hx, hr]
    refine hK _ _ (h (some ⟨g', 0, none⟩) c' w' [g] (.inr ⟨g', rfl, by simp, by rw [List.map_append]; exact h2, by omega⟩) h3 (by simp) (fun x hx => ?_))
    obtain rfl := Option.some.inj hx
    rcases h4 with rfl | h4
    · exact .inl rfl
    · exact .inr h4

/-- The numbers of a width that are taken, k at most, until the tape is torn. -/
def iterS (wd : Int) : Nat → List Nat → St → List Nat × St
  | 0, vs, s => (vs, s)
  | k + 1, vs, s => if s.2 then (vs, s) else iterS wd k (vs ++ [(numS s wd).1]) (numS s wd).2
/-- What Row takes. -/
def rowS (s : St) (most wd : Int) : List Nat × St :=
  if most < 0 then ([], (s.1, true))
  else if (iterS wd (belowS s 2 most.toNat).1 [] (belowS s 2 most.toNat).2).2.2 then ([], (iterS wd (belowS s 2 most.toNat).1 [] (belowS s 2 most.toNat).2).2)
  else iterS wd (belowS s 2 most.toNat).1 [] (belowS s 2 most.toNat).2

theorem iterS_step {wd : Int} {n : Nat} {vs : List Nat} {s : St} (h1 : vs.length < n) (h2 : s.2 = false) :
    iterS wd (n - vs.length) vs s = iterS wd (n - (vs ++ [(numS s wd).1]).length) (vs ++ [(numS s wd).1]) (numS s wd).2 := by
  obtain ⟨k, hk⟩ : ∃ k, n - vs.length = k + 1 := ⟨n - vs.length - 1, by omega⟩
  rw [hk, iterS, if_neg (by simp [h2])]
  congr 1
  simp only [List.length_append, List.length_cons, List.length_nil]
  omega
theorem iterS_full {wd : Int} {n : Nat} {vs : List Nat} {s : St} (h1 : n ≤ vs.length) : iterS wd (n - vs.length) vs s = (vs, s) := by
  rw [show n - vs.length = 0 by omega]; rfl
theorem iterS_torn {wd : Int} {n : Nat} {vs : List Nat} {s : St} (h : s.2 = true) : iterS wd n vs s = (vs, s) := by
  cases n with
  | zero => rfl
  | succ n => rw [iterS, if_pos h]
theorem below2_lt (s : St) (m : Nat) : (belowS s 2 m).1 < 65536 := by
  unfold belowS
  split
  · exact be2_lt _
  · show 0 < 65536
    decide
end Go.Proofs.Ytabdpebokpjljaa
