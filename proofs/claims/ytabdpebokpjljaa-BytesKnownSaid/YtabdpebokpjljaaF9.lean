/- Rows of frames (structs of a kind and a body); the helpers cut and laid of chapter 10. -/
import Derived.Test.YtabdpebokpjljaaF7
namespace Go.Proofs.Ytabdpebokpjljaa
open Go.RowKit

/-- A slice header that is not empty: its address, and its cells. -/
theorem Src.form {w : World} {sz n : Nat} {ao : Option Addr} {xs : List Value} (h : Src w sz ao n xs) (hn : 0 < n) (hsz : 0 < sz) :
    ∃ b o, ao = some ⟨b, o, none⟩ ∧ b < w.heap.size ∧ ∀ j u, xs[j]? = some u → w.cell? ⟨b, o + j, none⟩ = some u := by
  obtain ⟨h1, h2, h3⟩ := h
  cases ao with
  | none => have := h2 rfl; omega
  | some a =>
    have hl : 0 < xs.length := by rw [h1]; exact Nat.mul_pos hn hsz
    have h0 := h3 a rfl 0 xs[0] (List.getElem?_eq_getElem hl)
    obtain ⟨b, o, sp⟩ := a
    have hsp : sp = none := by
      cases sp with
      | none => rfl
      | some s =>
        simp only [Addr.add, if_pos] at h0
        unfold World.cell? at h0
        split at h0 <;> simp at h0
    subst hsp
    refine ⟨b, o, rfl, World.block_lt_of_cell? w _ h0, fun j u hu => ?_⟩
    have := h3 _ rfl j u hu
    rwa [Addr.add_lit] at this

abbrev Fr := Int × ByteArray
def fc (f : Fr) : List Value := [.int .i64 f.1, .string f.2]
def fcs (l : List Fr) : List Value := l.flatMap fc
theorem fcs_length : ∀ l : List Fr, (fcs l).length = l.length * 2
  | [] => rfl
  | f :: l => by have := fcs_length l; simp [fcs, fc] at *; omega
theorem fcs_get : ∀ (l : List Fr) (i : Nat) (h : i < l.length), (fcs l)[i * 2]? = some (.int .i64 l[i].1) ∧ (fcs l)[i * 2 + 1]? = some (.string l[i].2)
  | f :: l, 0, _ => ⟨rfl, rfl⟩
  | f :: l, i + 1, h => by
    have := fcs_get l i (by simpa using h)
    have e : (i + 1) * 2 = i * 2 + 1 + 1 := by omega
    simp only [fcs, List.flatMap_cons, fc, List.cons_append, List.nil_append, e, List.getElem?_cons_succ, List.getElem_cons_succ] at *
    exact this
theorem fcs_append (a b : List Fr) : fcs (a ++ b) = fcs a ++ fcs b := by simp [fcs]
theorem info102 : (Try.prog.info? 102).map (fun i => ((i.zero.map fun z => z.cells.size), i.size, i.bytes)) = some (some 2, 2, 24) := by kernel_rfl

theorem info_parts2 {e : TypeId} {a b c : Nat} (h : (Try.prog.info? e).map (fun i => ((i.zero.map fun z => z.cells.size), i.size, i.bytes)) = some (some a, b, c)) :
    ∃ i z, Try.prog.info? e = some i ∧ i.zero = some z ∧ z.cells.size = a ∧ i.size = b ∧ i.bytes = c := by
  cases hi : Try.prog.info? e with
  | none => rw [hi] at h; cases h
  | some i =>
    rw [hi] at h
    simp only [Option.map_some, Option.some.injEq, Prod.mk.injEq] at h
    cases hz : i.zero with
    | none => rw [hz] at h; simp at h
    | some z => rw [hz] at h; exact ⟨i, z, rfl, hz, by simpa using h.1, h.2.1, h.2.2⟩

/-- A row of frames of the law's own, made since w0, or nil. -/
def Fw (w0 w : World) (ao : Option Addr) (n c : Nat) (l : List Fr) : Prop :=
  (ao = none ∧ n = 0 ∧ c = 0 ∧ l = []) ∨ ∃ g, ao = some ⟨g, 0, none⟩ ∧ n = l.length ∧ Own w 102 2 g c n (fcs l) ∧ w0.heap.size ≤ g
/-- A row of bytes of the law's own, made since w0, or nil. -/
def Bw (w0 w : World) (ao : Option Addr) (n c : Nat) (l : List UInt8) : Prop :=
  (ao = none ∧ n = 0 ∧ c = 0 ∧ l = []) ∨ ∃ g, ao = some ⟨g, 0, none⟩ ∧ n = l.length ∧ Ow w g c l ∧ w0.heap.size ≤ g
theorem Fw.keep {w0 w w' : World} {ao : Option Addr} {n c : Nat} {l : List Fr} {S : List Nat} (h : Fw w0 w ao n c l) (hc : Chg w w' S) (hS : ∀ x, ao = some x → x.block ∉ S) : Fw w0 w' ao n c l := by
  rcases h with h | ⟨g, rfl, h1, h2, h3⟩
  · exact .inl h
  · exact .inr ⟨g, rfl, h1, h2.keep hc (hS _ rfl), h3⟩
theorem Bw.keep {w0 w w' : World} {ao : Option Addr} {n c : Nat} {l : List UInt8} {S : List Nat} (h : Bw w0 w ao n c l) (hc : Chg w w' S) (hS : ∀ x, ao = some x → x.block ∉ S) : Bw w0 w' ao n c l := by
  rcases h with h | ⟨g, rfl, h1, h2, h3⟩
  · exact .inl h
  · exact .inr ⟨g, rfl, h1, h2.keep hc (hS _ rfl), h3⟩
theorem Bw.bs {w0 w : World} {ao : Option Addr} {n c : Nat} {l : List UInt8} (h : Bw w0 w ao n c l) : Bs w ao n c l := by
  rcases h with ⟨rfl, rfl, rfl, rfl⟩ | ⟨g, rfl, rfl, h2, h3⟩
  · exact Bs.nil w
  · exact h2.bs
theorem Bw.block {w0 w : World} {ao : Option Addr} {n c : Nat} {l : List UInt8} (h : Bw w0 w ao n c l) : ∀ x, ao = some x → w0.heap.size ≤ x.block ∧ x.block < w.heap.size := by
  rcases h with ⟨rfl, rfl, rfl, rfl⟩ | ⟨g, rfl, rfl, h2, h3⟩
  · simp
  · intro x hx; obtain rfl := Option.some.inj hx; exact ⟨h3, h2.lt⟩
theorem Fw.block {w0 w : World} {ao : Option Addr} {n c : Nat} {l : List Fr} (h : Fw w0 w ao n c l) : ∀ x, ao = some x → w0.heap.size ≤ x.block ∧ x.block < w.heap.size := by
  rcases h with ⟨rfl, rfl, rfl, rfl⟩ | ⟨g, rfl, rfl, h2, h3⟩
  · simp
  · intro x hx; obtain rfl := Option.some.inj hx; exact ⟨h3, h2.lt⟩

/-- append of one frame, in the walk's form. -/
theorem wp_appF {ops : Array Oper} {rest : List Oper} {o : Oper} {a : Act} {w : World} {Q : Exit → Act → World → Prop} (hgd : o.guard = none) (s x : Operand)
    (ho : o.op = .call { callee := .builtin .append, args := #[s, x], argTypes := #[98, 98] })
    (w0 : World) (ao : Option Addr) (n c : Nat) (l : List Fr) (hs : a.eval s = .slice ao n c) (hw : Fw w0 w ao n c l) (hw0 : w0.heap.size ≤ w.heap.size)
    (f : Fr) (g2 : Nat) (hx : a.eval x = .slice (some ⟨g2, 0, none⟩) 1 1) (h0 : w.cell? ⟨g2, 0, none⟩ = some (.int .i64 f.1)) (h1 : w.cell? ⟨g2, 1, none⟩ = some (.string f.2)) (hmax : l.length ≤ 1000000)
    (h : ∀ ao' c' w' S, Fw w0 w' ao' (n + 1) c' (l ++ [f]) → Chg w w' S → (∀ k, k ∈ S → ∃ x, ao = some x ∧ x.block = k) → (∀ x, ao' = some x → ao = some x ∨ w.heap.size ≤ x.block) → wpList Try.prog ops Q rest (a.put o.dst (.slice ao' (n + 1) c')) w') :
    wpList Try.prog ops Q (o :: rest) a w := by
  obtain ⟨i, z, hi, hz0, hz1, hz2, hz3⟩ := info_parts2 info102
  have hsrc : Src w 2 (some ⟨g2, 0, none⟩) 1 (fc f) := by
    refine ⟨rfl, by simp, fun x hx j u hu => ?_⟩
    obtain rfl := Option.some.inj hx
    rw [Addr.add_lit, Nat.zero_add]
    match j, hu with
    | 0, hu => simp [fc] at hu; subst hu; exact h0
    | 1, hu => simp [fc] at hu; subst hu; exact h1
    | j + 2, hu => simp [fc] at hu
  have hone : ∀ u ∈ fc f, u.oneCell' = true := by simp [fc, Value.oneCell']
  rcases hw with ⟨rfl, rfl, rfl, rfl⟩ | ⟨g, rfl, rfl, hown, hge⟩
  · obtain ⟨g', c', w', hr, h2, h3, h4⟩ := run_app_nil (P := Try.prog) w 98 o.type 102 i z 2 24 Try.underlying98 hi hz0 hz2 hz3 hz1 (some ⟨g2, 0, none⟩) 1 1 _ hsrc (by unfold maxLen; omega) (by omega) (by omega)
    refine wpList_plain hgd fun K hK => ?_
    unfold Oper.wp execOp
    simp only [ho, resolve, invoke, builtin, Sem.run_bind, Sem.run_pure, Result.andThen_ok, List.map_toArray, List.map_cons, List.map_nil, hs, hx, hr]
    exact hK _ _ (h (some ⟨g', 0, none⟩) c' w' [] (.inr ⟨g', rfl, rfl, by simpa [fcs] using h2, by omega⟩) h3 (by simp) (fun x hx => .inr (by obtain rfl := Option.some.inj hx; exact h4)))
  · obtain ⟨g', c', w', hr, h2, h3, h4⟩ := run_app (P := Try.prog) w 98 o.type 102 i z 2 24 Try.underlying98 hi hz0 hz2 hz3 hz1 g c _ _ hown (some ⟨g2, 0, none⟩) 1 1 _ hsrc hone (by unfold maxLen; omega) (by omega)
    refine wpList_plain hgd fun K hK => ?_
    unfold Oper.wp execOp
    simp only [ho, resolve, invoke, builtin, Sem.run_bind, Sem.run_pure, Result.andThen_ok, List.map_toArray, List.map_cons, List.map_nil, hs, hx, hr]
    refine hK _ _ (h (some ⟨g', 0, none⟩) c' w' [g] (.inr ⟨g', rfl, by simp, by rw [fcs_append]; simpa [fcs] using h2, by omega⟩) h3 (by simp) (fun x hx => ?_))
    obtain rfl := Option.some.inj hx
    rcases h4 with rfl | h4
    · exact .inl rfl
    · exact .inr h4

/-- append of a row of bytes onto the law's own row, or nil. -/
theorem wp_appB {ops : Array Oper} {rest : List Oper} {o : Oper} {a : Act} {w : World} {Q : Exit → Act → World → Prop} (hgd : o.guard = none) (s x : Operand)
    (ho : o.op = .call { callee := .builtin .append, args := #[s, x], argTypes := #[27, 27] })
    (w0 : World) (ao : Option Addr) (n c : Nat) (l : List UInt8) (hs : a.eval s = .slice ao n c) (hw : Bw w0 w ao n c l) (hw0 : w0.heap.size ≤ w.heap.size)
    (bo : Option Addr) (m cx : Nat) (b : List UInt8) (hx : a.eval x = .slice bo m cx) (hb : Bs w bo m cx b) (hb1 : 1 ≤ b.length) (hmax : l.length + b.length ≤ 10000000)
    (h : ∀ ao' c' w' S, Bw w0 w' ao' (n + m) c' (l ++ b) → Chg w w' S → (∀ k, k ∈ S → ∃ x, ao = some x ∧ x.block = k) → (∀ x, ao' = some x → ao = some x ∨ w.heap.size ≤ x.block) → wpList Try.prog ops Q rest (a.put o.dst (.slice ao' (n + m) c')) w') :
    wpList Try.prog ops Q (o :: rest) a w := by
  rcases hw with ⟨rfl, rfl, rfl, rfl⟩ | ⟨g, rfl, rfl, hown, hge⟩
  · have hm := hb.1
    refine wp_app_nil hgd s x ho hs bo m cx b hx hb.src (by simpa using hmax) (by omega) fun g' c' w' h2 h3 h4 => ?_
    have := h (some ⟨g', 0, none⟩) c' w' [] (.inr ⟨g', rfl, by simp; omega, by simpa using h2, by omega⟩) h3 (by simp) (fun x hx => .inr (by obtain rfl := Option.some.inj hx; exact h4))
    rwa [Nat.zero_add, hm] at this
  · refine wp_app hgd s x ho g c _ l hs rfl hown bo m cx b hx hb.src hmax fun g' c' w' h2 h3 h4 => ?_
    refine h (some ⟨g', 0, none⟩) c' w' [g] (.inr ⟨g', rfl, by simp [hb.1], h2, by omega⟩) h3 (by simp) (fun x hx => ?_)
    obtain rfl := Option.some.inj hx
    rcases h4 with rfl | h4
    · exact .inl rfl
    · exact .inr h4

set_option maxHeartbeats 400000 in
theorem cut10 (s : ByteArray) (w : World) (hs : s.size ≤ 9223372036854775807) :
    Calls Try.prog 76 #[.string s] w fun e w' => e = .returned (.string (cutB s 2000)) ∧ w = w' := by
  go_enter Try.func76, Try.ntmps76
  go_wp2
  · have h : 2000 < s.size := by omega
    go_ret
    exact ⟨by rw [cutB_lt h]; rfl, rfl⟩
  · have h : ¬ 2000 < s.size := by omega
    go_ret
    exact ⟨by rw [cutB_ge h]; rfl, rfl⟩
end Go.Proofs.Ytabdpebokpjljaa
