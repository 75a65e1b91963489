/- FrameBack: the state of the reader and of the row of what came out. -/
import Derived.Test.YtabdpebokpjljaaF11
namespace Go.Proofs.Ytabdpebokpjljaa
open Go.RowKit

/-- The reader, and the row of frames that came out; both made since w1. -/
structure BkT (w1 W : World) (g : Nat) (xs : List Nat) (held : List UInt8) (go : Option Addr) (n c : Nat) (got : List Fr) : Prop where
  rd : RdIn w1 W g xs held false
  fw : Fw w1 W go n c got
  ne : ∀ x, go = some x → x.block ≠ g ∧ x.block ∉ xs

theorem BkT.rdr {w1 W W' : World} {g : Nat} {xs xs' : List Nat} {held held' : List UInt8} {go : Option Addr} {n c : Nat} {got : List Fr} (h : BkT w1 W g xs held go n c got)
    (hr : RdIn w1 W' g xs' held' false) (hc : Chg W W' (g :: xs)) (hx : ∀ x, x ∈ xs' → x ∈ xs ∨ W.heap.size ≤ x) : BkT w1 W' g xs' held' go n c got := by
  refine ⟨hr, h.fw.keep hc fun x hx => ?_, fun x hx2 => ⟨(h.ne x hx2).1, fun hm => ?_⟩⟩
  · have := h.ne x hx
    simp [this.1, this.2]
  · rcases hx _ hm with h1 | h1
    · exact (h.ne x hx2).2 h1
    · have := (h.fw.block x hx2).2; omega
theorem BkT.same {w1 W W' : World} {g : Nat} {xs : List Nat} {held : List UInt8} {go : Option Addr} {n c : Nat} {got : List Fr} (h : BkT w1 W g xs held go n c got) (hc : Chg W W' []) : BkT w1 W' g xs held go n c got :=
  ⟨h.rd.new hc, h.fw.keep hc (by simp), h.ne⟩
theorem BkT.app {w1 W W' : World} {g : Nat} {xs : List Nat} {held : List UInt8} {go go' : Option Addr} {n c n' c' : Nat} {got got' : List Fr} {S : List Nat} (h : BkT w1 W g xs held go n c got)
    (hf : Fw w1 W' go' n' c' got') (hc : Chg W W' S) (hS : ∀ k, k ∈ S → ∃ x, go = some x ∧ x.block = k) (hz : ∀ x, go' = some x → go = some x ∨ W.heap.size ≤ x.block) : BkT w1 W' g xs held go' n' c' got' := by
  refine ⟨h.rd.step hc (fun hm => ?_) (fun x hx hm => ?_) (fun k hk => ?_), hf, fun x hx => ?_⟩
  · obtain ⟨x, h1, h2⟩ := hS _ hm
    exact (h.ne x h1).1 h2
  · obtain ⟨y, h1, h2⟩ := hS _ hm
    exact (h.ne y h1).2 (h2 ▸ hx)
  · obtain ⟨x, h1, rfl⟩ := hS _ hk
    exact (h.fw.block x h1).1
  · rcases hz x hx with h1 | h1
    · exact h.ne x h1
    · have hg := h.rd.rd.lt
      refine ⟨by omega, fun hm => ?_⟩
      have := (h.rd.rd.ltx _ hm).1
      omega

/-- append of a string onto the law's own row of bytes, or nil. -/
theorem wp_appBS {ops : Array Oper} {rest : List Oper} {o : Oper} {a : Act} {w : World} {Q : Exit → Act → World → Prop} (hgd : o.guard = none) (sl x : Operand)
    (ho : o.op = .call { callee := .builtin .append, args := #[sl, x], argTypes := #[27, 9] })
    (w0 : World) (ao : Option Addr) (n c : Nat) (l : List UInt8) (hs : a.eval sl = .slice ao n c) (hw : Bw w0 w ao n c l) (hw0 : w0.heap.size ≤ w.heap.size)
    (s : ByteArray) (hx : a.eval x = .string s) (hmax : l.length + s.size ≤ 10000000)
    (h : ∀ ao' c' w' S, Bw w0 w' ao' (n + s.size) c' (l ++ s.data.toList) → Chg w w' S → (∀ k, k ∈ S → ∃ x, ao = some x ∧ x.block = k) → (∀ x, ao' = some x → ao = some x ∨ w.heap.size ≤ x.block) → wpList Try.prog ops Q rest (a.put o.dst (.slice ao' (n + s.size) c')) w') :
    wpList Try.prog ops Q (o :: rest) a w := by
  rcases hw with ⟨rfl, rfl, rfl, rfl⟩ | ⟨g, rfl, rfl, hown, hge⟩
  · obtain ⟨i, hi, hz0, hz1, hz2⟩ := info_parts info5
    have hdl : s.data.toList.length = s.size := by rw [Array.length_toList]; rfl
    have hbv : Lib.strCells s = s.data.toList.map bv := rfl
    have hmx : s.size ≤ 10000000 := by simpa using hmax
    refine Lib.wpList_append_own_string w hgd sl x 27 9 ho w.heap.size 5 i Try.underlying27 Try.underlying9 hi hz0 hz1 hz2 (.slice none 0 0) 0 [] hs (World.ownsRow_nil w _ 5 1) s hx (by unfold maxLen; omega) (by omega) (Nat.le_refl _) fun v' w' h1 h2 h3 => ?_
    have hc : Chg w w' [] := ⟨h2.os, h2.tape, h2.output, h2.size, fun k hk _ => h2.block k hk (by simp [Value.ownBlock])⟩
    rcases h1.2 with ⟨rfl, hn⟩ | ⟨g, cap, cur, rfl, hbg, hg, hnc, hcm, hcs, htake⟩
    · have hs0 : s.data.toList = [] := List.eq_nil_of_length_eq_zero (by omega)
      have := h none 0 w' [] (.inl ⟨rfl, by omega, rfl, by simp [hs0]⟩) hc (by simp) (by simp)
      rwa [hn] at this
    · refine h (some ⟨g, 0, none⟩) cap w' [] (.inr ⟨g, rfl, by simp, ⟨cur, hg, ?_, hcm, by omega, by simp, ?_⟩, by omega⟩) hc (by simp) (fun x hx => .inr (by obtain rfl := Option.some.inj hx; exact hbg))
      · simpa [hdl] using hnc
      · rw [hbv] at htake
        simpa [hdl] using htake
  · refine wp_appS hgd sl x ho g c _ l hs rfl hown s hx hmax fun g' c' w' h2 h3 h4 => ?_
    refine h (some ⟨g', 0, none⟩) c' w' [g] (.inr ⟨g', rfl, ?_, h2, by omega⟩) h3 (by simp) (fun x hx => ?_)
    · rw [List.length_append, Array.length_toList]; rfl
    · obtain rfl := Option.some.inj hx
      rcases h4 with rfl | h4
      · exact .inl rfl
      · exact .inr h4

/-- What is yet to come: the frames from the j-th on, and what stands behind. -/
def restF (F : List Fr) (bh : List UInt8) (j : Nat) : List UInt8 := (F.drop j).flatMap encF ++ bh

theorem restF_next {F : List Fr} {bh held rest : List UInt8} {j : Nat} (hg : ∀ f, f ∈ F → goodF f) (hbh : bh.length < 4) (hj : j ≤ F.length) (he : held ++ rest = restF F bh j) :
    nextS held false = ((0, [], false, 0), held, false) ∨ ∃ f h', F[j]? = some f ∧ nextS held false = ((f.1, f.2.data.toList, true, 0), h', false) ∧ h' ++ rest = restF F bh (j + 1) := by
  by_cases hlt : j < F.length
  · have hd : F.drop j = F[j] :: F.drop (j + 1) := List.drop_eq_getElem_cons hlt
    unfold restF at he
    rw [hd, List.flatMap_cons, List.append_assoc] at he
    rcases nextS_frame (hg _ (List.getElem_mem hlt)) held rest _ he with h | ⟨h', h1, h2⟩
    · exact .inl h.1
    · exact .inr ⟨F[j], h', List.getElem?_eq_getElem hlt, h1, h2⟩
  · left
    refine nextS_few held ?_
    unfold restF at he
    rw [List.drop_of_length_le (by omega)] at he
    have := congrArg List.length he
    simp at this
    omega

theorem restF_end {F : List Fr} {bh held : List UInt8} {j : Nat} (hg : ∀ f, f ∈ F → goodF f) (hj : j ≤ F.length) (he : held = restF F bh j) (hs : nextS held false = ((0, [], false, 0), held, false)) :
    j = F.length ∧ held = bh := by
  by_cases hlt : j < F.length
  · have hd : F.drop j = F[j] :: F.drop (j + 1) := List.drop_eq_getElem_cons hlt
    unfold restF at he
    rw [hd, List.flatMap_cons, List.append_assoc] at he
    rcases nextS_frame (hg _ (List.getElem_mem hlt)) held [] _ (by rw [List.append_nil]; exact he) with h | ⟨h', h1, h2⟩
    · have := congrArg List.length he
      simp only [List.length_append] at this
      omega
    · rw [h1] at hs
      simp at hs
  · have : j = F.length := by omega
    subst this
    refine ⟨rfl, ?_⟩
    rw [he, restF, List.drop_length]
    rfl
end Go.Proofs.Ytabdpebokpjljaa
