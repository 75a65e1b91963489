/- Walks: the reference's reader (caravanref10.Reader): Push and Next answer as the plain functions of a reader say. -/
import Derived.Test.YtabdpebokpjljaaF9
namespace Go.Proofs.Ytabdpebokpjljaa
open Go.RowKit

theorem results_tmp4 {fn : Func} {t u v x : Tmp} (h : fn.results = #[.tmp t, .tmp u, .tmp v, .tmp x]) (tmps : Array Value) (P : Program) (w : World) :
    (results fn tmps).run P w = .ok (.tuple #[tmps.getD t undef, tmps.getD u undef, tmps.getD v undef, tmps.getD x undef]) w := by simp [results, h]

/-- append of any bytes onto nil, in the walk's form. -/
theorem wp_appN {ops : Array Oper} {rest : List Oper} {o : Oper} {a : Act} {w : World} {Q : Exit → Act → World → Prop} (hgd : o.guard = none) (s x : Operand)
    (ho : o.op = .call { callee := .builtin .append, args := #[s, x], argTypes := #[27, 27] }) (hs : a.eval s = .slice none 0 0)
    (bo : Option Addr) (m cx : Nat) (b : List UInt8) (hx : a.eval x = .slice bo m cx) (hb : Bs w bo m cx b) (hmax : b.length ≤ 10000000)
    (h : ∀ ao' c' w', Bw w w' ao' b.length c' b → Chg w w' [] → wpList Try.prog ops Q rest (a.put o.dst (.slice ao' b.length c')) w') :
    wpList Try.prog ops Q (o :: rest) a w := by
  obtain rfl := hb.1
  by_cases h0 : 0 < b.length
  · exact wp_app_nil hgd s x ho hs bo _ cx b hx hb.src hmax h0 fun g' c' w' h1 h2 h3 => h _ c' w' (.inr ⟨g', rfl, rfl, h1, h3⟩) h2
  · have hb0 : b = [] := List.eq_nil_of_length_eq_zero (by omega)
    subst hb0
    exact wp_app_nil0 hgd s x ho hs bo _ cx hx rfl (h none 0 w (.inl ⟨rfl, rfl, rfl, rfl⟩) (Chg.refl _ _))

/-- append of any bytes onto the call's own row, or nil. -/
theorem wp_appB0 {ops : Array Oper} {rest : List Oper} {o : Oper} {a : Act} {w : World} {Q : Exit → Act → World → Prop} (hgd : o.guard = none) (s x : Operand)
    (ho : o.op = .call { callee := .builtin .append, args := #[s, x], argTypes := #[27, 27] })
    (w0 : World) (ao : Option Addr) (n c : Nat) (l : List UInt8) (hs : a.eval s = .slice ao n c) (hw : Bw w0 w ao n c l) (hw0 : w0.heap.size ≤ w.heap.size)
    (bo : Option Addr) (m cx : Nat) (b : List UInt8) (hx : a.eval x = .slice bo m cx) (hb : Bs w bo m cx b) (hmax : l.length + b.length ≤ 10000000)
    (h : ∀ ao' c' w' S, Bw w0 w' ao' (n + m) c' (l ++ b) → Chg w w' S → (∀ k, k ∈ S → ∃ x, ao = some x ∧ x.block = k) → (∀ x, ao' = some x → ao = some x ∨ w.heap.size ≤ x.block) → wpList Try.prog ops Q rest (a.put o.dst (.slice ao' (n + m) c')) w') :
    wpList Try.prog ops Q (o :: rest) a w := by
  by_cases hb1 : 1 ≤ b.length
  · exact wp_appB hgd s x ho w0 ao n c l hs hw hw0 bo m cx b hx hb hb1 hmax h
  · have hm := hb.1
    have hb0 : b = [] := List.eq_nil_of_length_eq_zero (by omega)
    subst hb0
    rcases hw with ⟨rfl, rfl, rfl, rfl⟩ | ⟨g, rfl, rfl, hown, hge⟩
    · simp only [List.length_nil] at hm
      subst hm
      exact wp_app_nil0 hgd s x ho hs bo _ cx hx rfl (h none 0 w [] (.inl ⟨rfl, rfl, rfl, rfl⟩) (Chg.refl _ _) (by simp) (by simp))
    · refine wp_app hgd s x ho g c _ l hs rfl hown bo m cx [] hx hb.src hmax fun g' c' w' h2 h3 h4 => ?_
      refine h (some ⟨g', 0, none⟩) c' w' [g] (.inr ⟨g', rfl, by simp [hb.1], h2, by omega⟩) h3 (by simp) (fun x hx => ?_)
      obtain rfl := Option.some.inj hx
      rcases h4 with rfl | h4
      · exact .inl rfl
      · exact .inr h4

/-- Block g is the reference's reader: it holds the bytes l; its row lies in one of the blocks xs. -/
def Rq (w : World) (g : Nat) (xs : List Nat) (l : List UInt8) (br : Bool) : Prop :=
  ∃ ao c, w.heap[g]? = some (.cells #[.slice ao l.length c, .bool br] 34) ∧ Bs w ao l.length c l ∧ (∀ x, ao = some x → x.block ∈ xs) ∧ ∀ x, x ∈ xs → x ≠ g ∧ x < w.heap.size

theorem Rq.lt {w : World} {g : Nat} {xs : List Nat} {l : List UInt8} {br : Bool} (h : Rq w g xs l br) : g < w.heap.size := by
  obtain ⟨ao, c, h, _⟩ := h; exact heap_lt h
theorem Rq.ltx {w : World} {g : Nat} {xs : List Nat} {l : List UInt8} {br : Bool} (h : Rq w g xs l br) : ∀ x, x ∈ xs → x ≠ g ∧ x < w.heap.size := by
  obtain ⟨ao, c, _, _, _, h⟩ := h; exact h
theorem Rq.keep {w w' : World} {S : List Nat} {g : Nat} {xs : List Nat} {l : List UInt8} {br : Bool} (h : Rq w g xs l br) (hc : Chg w w' S) (h1 : g ∉ S) (h2 : ∀ x, x ∈ xs → x ∉ S) : Rq w' g xs l br := by
  have hl := h.lt
  obtain ⟨ao, c, e1, e2, e3, e4⟩ := h
  exact ⟨ao, c, by rw [hc.block g hl h1]; exact e1, e2.keep hc fun x hx => h2 _ (e3 x hx), e3, fun x hx => ⟨(e4 x hx).1, Nat.lt_of_lt_of_le (e4 x hx).2 hc.size⟩⟩
theorem rq_new (w : World) : Rq (w.alloc (.cells #[.slice none 0 0, .bool false] 34)) w.heap.size [] [] false :=
  ⟨none, 0, heap_alloc_new w _, Bs.nil _, by simp, by simp⟩
theorem Rq.set1 {w : World} {g : Nat} {xs : List Nat} {l : List UInt8} {br : Bool} (h : Rq w g xs l br) (b : Bool) : Rq (w.setCell ⟨g, 1, none⟩ (.bool b)) g xs l b := by
  obtain ⟨ao, c, e1, e2, e3, e4⟩ := h
  refine ⟨ao, c, by rw [heap_set _ _ e1]; rfl, e2.keep (set_chg _ _ _ _) fun x hx => ?_, e3, fun x hx => ⟨(e4 x hx).1, by simpa [World.setCell] using (e4 x hx).2⟩⟩
  have := (e4 _ (e3 x hx)).1
  simpa using this

/-- What a call that changes the reference's reader leaves. -/
def RqTo (w : World) (g : Nat) (xs : List Nat) (v : Value) (l : List UInt8) (br : Bool) (e : Ending) (w' : World) : Prop :=
  e = .returned v ∧ ∃ xs', Rq w' g xs' l br ∧ Chg w w' [g] ∧ ∀ x, x ∈ xs' → x ∈ xs ∨ w.heap.size ≤ x
/-- What Next leaves of the reference's reader. -/
def RqNext (w : World) (g : Nat) (xs : List Nat) (r : (Int × List UInt8 × Bool × Int) × List UInt8 × Bool) (e : Ending) (w' : World) : Prop :=
  ∃ ao c xs', e = .returned (.tuple #[.int .i64 r.1.1, .slice ao r.1.2.1.length c, .bool r.1.2.2.1, .int .i64 r.1.2.2.2]) ∧ Bs w' ao r.1.2.1.length c r.1.2.1 ∧
    Rq w' g xs' r.2.1 r.2.2 ∧ Chg w w' [g] ∧ ∀ x, x ∈ xs' → x ∈ xs ∨ w.heap.size ≤ x

theorem rq_fin {w w3 : World} {g : Nat} {l l' : List UInt8} {br : Bool} {ao vo : Option Addr} {c n d : Nat} (hg : w.heap[g]? = some (.cells #[.slice ao l.length c, .bool br] 34)) (hc : Chg w w3 []) (hB : Bw w w3 vo n d l') :
    ∃ xs', Rq (w3.setCell ⟨g, 0, none⟩ (.slice vo n d)) g xs' l' br ∧ Chg w (w3.setCell ⟨g, 0, none⟩ (.slice vo n d)) [g] ∧ ∀ x, x ∈ xs' → w.heap.size ≤ x := by
  have hl := heap_lt hg
  have hb := hB.bs
  obtain rfl := hb.1
  have hblk := hB.block
  have h3 : w3.heap[g]? = some (.cells #[.slice ao l.length c, .bool br] 34) := by rw [hc.block g hl (by simp)]; exact hg
  cases vo with
  | none => exact ⟨[], ⟨none, d, by rw [heap_set _ _ h3]; rfl, hb.keep (set_chg _ _ _ _) (by simp), by simp, by simp⟩, (hc.mono (by simp)).trans (set_chg _ _ _ _) (by simp), by simp⟩
  | some x =>
    have hx := hblk x rfl
    refine ⟨[x.block], ⟨some x, d, by rw [heap_set _ _ h3]; rfl, hb.keep (set_chg _ _ _ _) (by simp; omega), by simp, fun y hy => ?_⟩, (hc.mono (by simp)).trans (set_chg _ _ _ _) (by simp), fun y hy => ?_⟩
    · rw [List.mem_singleton] at hy
      subst hy
      exact ⟨by omega, by simpa [World.setCell] using hx.2⟩
    · rw [List.mem_singleton] at hy
      omega

set_option maxHeartbeats 1000000 in
theorem rpush_any (g : Nat) (xs : List Nat) (l : List UInt8) (br : Bool) (ao : Option Addr) (n c : Nat) (b : List UInt8) (w : World) (h : Rq w g xs l br) (hb : Bs w ao n c b) (hl : l.length ≤ 1000000) (hbl : b.length ≤ 1000000) :
    Calls Try.prog 24 #[.pointer (some ⟨g, 0, none⟩), .slice ao n c] w (RqTo w g xs (.int .i64 (pushS l br b).1) (pushS l br b).2.1 (pushS l br b).2.2) := by
  obtain rfl := hb.1
  have h' := h
  obtain ⟨bo, d, hg, hbo, hx1, hx2⟩ := h'
  have c0 : w.cell? ⟨g, 0, none⟩ = some (.slice bo l.length d) := by rw [cell_of_row w g 0 _ _ _ hg]; rfl
  have c1 : w.cell? ⟨g, 1, none⟩ = some (.bool br) := by rw [cell_of_row w g 1 _ _ _ hg]; rfl
  have f0 : w.frozen? ⟨g, 0, none⟩ = false := frozen_blk 0 hg
  have hlt := heap_lt hg
  cases br with
  | true =>
    have e : pushS l true b = (4, l, true) := by simp [pushS]
    rw [e]
    clear hx1 hx2 hbo hg
    go_enter Try.func24, Try.ntmps24
    go_wp2
    go_ret
    exact ⟨rfl, xs, h, Chg.refl _ _, fun x hx => .inl hx⟩
  | false =>
    by_cases hfull : 131072 < l.length + b.length
    · have e : pushS l false b = (3, l, false) := by simp [pushS, hfull]
      rw [e]
      have d1 : (131072 : Int) < (l.length : Int) + (b.length : Int) := by omega
      clear hx1 hx2 hbo hg e hfull
      go_enter Try.func24, Try.ntmps24
      go_wp2
      go_ret
      exact ⟨rfl, xs, h, Chg.refl _ _, fun x hx => .inl hx⟩
    · have e : pushS l false b = (0, l ++ b, false) := by simp [pushS, hfull]
      rw [e]
      have d1 : (l.length : Int) + (b.length : Int) ≤ 131072 := by omega
      have HG := hid hg
      clear hx1 hx2 hg e hfull h
      go_enter Try.func24, Try.ntmps24
      go_wp2_with (first
        | (at_builtin; (refine wp_appN rfl _ _ rfl rfl bo l.length d l rfl hbo (by omega) ?_); intro zo d2 w2 hB2 hc2)
        | (at_builtin; (refine wp_appB0 rfl _ _ rfl w zo l.length d2 l rfl hB2 hc2.size ao b.length c b rfl (hb.keep hc2 (by simp)) (by omega) ?_); intro vo d3 w3 S3 hB3 hc3 hS3 hz3
           have hc4 : Chg w w3 [] := hc2.trans hc3 (fun k hk hlt => by { obtain ⟨x, h1, h2⟩ := hS3 k hk; have := (hB2.block x h1).1; omega })
           have g2 : w3.cell? ⟨g, 0, none⟩ = some (.slice bo l.length d) := by { rw [hc4.cell hlt (by simp)]; exact c0 }
           have f2 : w3.frozen? ⟨g, 0, none⟩ = false := by { rw [hc4.frozen hlt (by simp)]; exact f0 }))
      go_ret
      obtain ⟨xs', r1, r2, r3⟩ := rq_fin HG.out hc4 hB3
      exact ⟨rfl, xs', r1, r2, fun x hx => .inr (r3 x hx)⟩
end Go.Proofs.Ytabdpebokpjljaa
