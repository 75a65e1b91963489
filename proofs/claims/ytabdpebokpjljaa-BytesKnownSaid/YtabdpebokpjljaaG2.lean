/- This program's kinds of arguments that are slices and structs, opened. -/
import Derived.Test.YtabdpebokpjljaaG1
import Derived.Test.YtabdpebokpjljaaN
namespace Go.Proofs.Ytabdpebokpjljaa
open Go.RowKit Go.ChangeShapes Go.WideShapes Go.Deep
set_option maxRecDepth 100000

/-- A part: its bytes, how often one asks. -/
abbrev Pt := ByteArray × Nat
def pc (p : Pt) : List Value := [.string p.1, .int .u8 p.2]
def pok (p : Pt) : Prop := p.1.size ≤ 9223372036854775807 ∧ p.2 < 256
/-- An ask. -/
abbrev Ak := Int × Int × Nat
def ac (a : Ak) : List Value := [.int .i64 a.1, .int .i64 a.2.1, .int .u64 a.2.2]
def aok (a : Ak) : Prop := (-9223372036854775808 ≤ a.1 ∧ a.1 ≤ 9223372036854775807) ∧ (-9223372036854775808 ≤ a.2.1 ∧ a.2.1 ≤ 9223372036854775807) ∧ a.2.2 < 18446744073709551616
/-- A thing. -/
abbrev Th := Int × Nat × ByteArray
def tc (t : Th) : List Value := [.int .i64 t.1, .int .u64 t.2.1, .string t.2.2]
def tok (t : Th) : Prop := (-9223372036854775808 ≤ t.1 ∧ t.1 ≤ 9223372036854775807) ∧ t.2.1 < 18446744073709551616 ∧ t.2.2.size ≤ 9223372036854775807

section
variable {H : Type} {enc : TypeId × Value → H} {w : World} {base : Nat} {spare : Nat → Bool} {held : Bool} {r : Reach} {b0 : Nat} {v : Value} {d : DataW H} {p : List MemPlace}

theorem try_back {w' : World} {ts : List TypeId} {vs : List Value} {ds : List (DataW H)} {ps : List MemPlace} (hT : (ts.all fun t => decide (t < Try.prog.types.size)) = true)
    (h : DataW.TrodAll enc Try.prog w 0 (fun _ => true) true ts vs ds ps) (hb : Below w.heap.size w w') : DataW.TrodAll enc Try.prog w' 0 (fun b => decide (b < w.heap.size)) true ts vs ds ps :=
  args_back (by kernel_rfl) (by kernel_rfl) (slices_full_of Try.prog (by kernel_rfl)) (fun t ht => by simpa using List.all_eq_true.1 hT t ht) h hb

theorem open_u8s (hv : Value.okWide Try.prog w r b0 27 v) (h : DataW.Trod enc Try.prog w base spare held 27 v d p) : ∃ ao n c l, v = .slice ao n c ∧ AIn (fun b => [bv b]) 1 (fun _ => True) w ao n l := by
  refine open_in _ _ Try.underlying27 (by kernel_rfl) (by decide) (fun cs n x hx => ?_) hv h
  obtain ⟨z, rfl, _, hw⟩ := DataW.trod_int Try.underlying5 hx
  obtain ⟨b, rfl⟩ := wf_u8 hw
  exact ⟨b, rfl, trivial⟩
theorem open_u32s (hv : Value.okWide Try.prog w r b0 54 v) (h : DataW.Trod enc Try.prog w base spare held 54 v d p) : ∃ ao n c l, v = .slice ao n c ∧ AIn (fun k : Nat => [.int .u32 k]) 1 (· < 4294967296) w ao n l := by
  refine open_in _ _ Try.underlying54 (by kernel_rfl) (by decide) (fun cs n x hx => ?_) hv h
  obtain ⟨z, rfl, _, hw⟩ := DataW.trod_int Try.underlying22 hx
  obtain ⟨k, rfl, hk⟩ := wf_u32 hw
  exact ⟨k, rfl, hk⟩
theorem open_frs (hv : Value.okWide Try.prog w r b0 98 v) (h : DataW.Trod enc Try.prog w base spare held 98 v d p) :
    ∃ ao n c l, v = .slice ao n c ∧ AIn (fun f : Int × ByteArray => [.int .i64 f.1, .string f.2]) 2 (fun f => f.2.size ≤ 9223372036854775807 ∧ -9223372036854775808 ≤ f.1 ∧ f.1 ≤ 9223372036854775807) w ao n l := by
  refine open_in _ _ Try.underlying98 (by kernel_rfl) (by decide) (fun cs n x hx => ?_) hv h
  obtain ⟨c0, c1, m, y0, y1, rfl, h0, h1⟩ := fields2 Try.underlying102 (by kernel_rfl) (by kernel_rfl) hx
  obtain ⟨z, e0, _, hw⟩ := DataW.trod_int Try.underlying3 h0
  obtain ⟨s, e1, _, hs⟩ := DataW.trod_string Try.underlying9 h1
  obtain rfl := List.singleton_inj.1 e0
  obtain rfl := List.singleton_inj.1 e1
  unfold maxLen at hs
  exact ⟨(z, s), rfl, hs, wf_i64 hw⟩
theorem open_pts (hv : Value.okWide Try.prog w r b0 31 v) (h : DataW.Trod enc Try.prog w base spare held 31 v d p) : ∃ ao n c l, v = .slice ao n c ∧ AIn pc 2 pok w ao n l := by
  refine open_in _ _ Try.underlying31 (by kernel_rfl) (by decide) (fun cs n x hx => ?_) hv h
  obtain ⟨c0, c1, m, y0, y1, rfl, h0, h1⟩ := fields2 Try.underlying36 (by kernel_rfl) (by kernel_rfl) hx
  obtain ⟨s, e0, _, hs⟩ := DataW.trod_string Try.underlying9 h0
  obtain ⟨z, e1, _, hw⟩ := DataW.trod_int Try.underlying5 h1
  obtain rfl := List.singleton_inj.1 e0
  obtain rfl := List.singleton_inj.1 e1
  obtain ⟨b, rfl⟩ := wf_u8 hw
  unfold maxLen at hs
  exact ⟨(s, b.toNat), rfl, hs, b.toNat_lt⟩
theorem open_aks (hv : Value.okWide Try.prog w r b0 92 v) (h : DataW.Trod enc Try.prog w base spare held 92 v d p) : ∃ ao n c l, v = .slice ao n c ∧ AIn ac 3 aok w ao n l := by
  refine open_in _ _ Try.underlying92 (by kernel_rfl) (by decide) (fun cs n x hx => ?_) hv h
  obtain ⟨c0, c1, c2, m, y0, y1, y2, rfl, h0, h1, h2⟩ := fields3 Try.underlying95 (by kernel_rfl) (by kernel_rfl) hx
  obtain ⟨z0, e0, _, hw0⟩ := DataW.trod_int Try.underlying3 h0
  obtain ⟨z1, e1, _, hw1⟩ := DataW.trod_int Try.underlying3 h1
  obtain ⟨z2, e2, _, hw2⟩ := DataW.trod_int Try.underlying45 h2
  obtain rfl := List.singleton_inj.1 e0
  obtain rfl := List.singleton_inj.1 e1
  obtain rfl := List.singleton_inj.1 e2
  obtain ⟨k, rfl, hk⟩ := wf_u64 hw2
  exact ⟨(z0, z1, k), rfl, wf_i64 hw0, wf_i64 hw1, hk⟩
theorem open_ths (hv : Value.okWide Try.prog w r b0 80 v) (h : DataW.Trod enc Try.prog w base spare held 80 v d p) : ∃ ao n c l, v = .slice ao n c ∧ AIn tc 3 tok w ao n l := by
  refine open_in _ _ Try.underlying80 (by kernel_rfl) (by decide) (fun cs n x hx => ?_) hv h
  obtain ⟨c0, c1, c2, m, y0, y1, y2, rfl, h0, h1, h2⟩ := fields3 Try.underlying83 (by kernel_rfl) (by kernel_rfl) hx
  obtain ⟨z0, e0, _, hw0⟩ := DataW.trod_int Try.underlying3 h0
  obtain ⟨z1, e1, _, hw1⟩ := DataW.trod_int Try.underlying45 h1
  obtain ⟨s, e2, _, hs⟩ := DataW.trod_string Try.underlying9 h2
  obtain rfl := List.singleton_inj.1 e0
  obtain rfl := List.singleton_inj.1 e1
  obtain rfl := List.singleton_inj.1 e2
  obtain ⟨k, rfl, hk⟩ := wf_u64 hw1
  unfold maxLen at hs
  exact ⟨(z0, k, s), rfl, wf_i64 hw0, hk, hs⟩
theorem open_bd (hv : Value.okWide Try.prog w r b0 56 v) (h : DataW.Trod enc Try.prog w base spare held 56 v d p) :
    ∃ x y : Int, v = .agg #[.int .i64 x, .int .i64 y] ∧ (Lit.int .i64 x).wf = true ∧ (Lit.int .i64 y).wf = true := by
  obtain ⟨v0, v1, y0, y1, n, rfl, _, _, h0, h1⟩ := Go.Joins.open_agg2 Try.underlying56 (by kernel_rfl) (by kernel_rfl) hv h
  obtain ⟨z0, e0, _, hw0⟩ := DataW.trod_int Try.underlying3 h0
  obtain ⟨z1, e1, _, hw1⟩ := DataW.trod_int Try.underlying3 h1
  obtain rfl := List.singleton_inj.1 e0
  obtain rfl := List.singleton_inj.1 e1
  exact ⟨z0, z1, rfl, hw0, hw1⟩

end
/-- A slice of bytes that came in, in the words of memory. -/
theorem AIn.src1 {w : World} {ao : Option Addr} {n : Nat} {l : List UInt8} {ok : UInt8 → Prop} (h : AIn (fun b => [bv b]) 1 ok w ao n l) : Src w 1 ao n (l.map bv) := by
  refine ⟨by have := h.len; simp; omega, fun ha => ?_, fun x hx j u hu => ?_⟩
  case refine_1 =>
    by_cases hn : 0 < n
    · obtain ⟨b, o, e1, _⟩ := h.cells hn
      rw [ha] at e1
      cases e1
    · omega
  have hj := (List.getElem?_eq_some_iff.1 hu).1
  rw [List.length_map] at hj
  obtain ⟨b, o, e1, e2, e3⟩ := h.cells (by have := h.len; omega)
  rw [hx] at e1
  obtain rfl := Option.some.inj e1
  rw [Addr.add_lit]
  have hl : l[j]? = some l[j] := List.getElem?_eq_getElem hj
  rw [List.getElem?_map, hl] at hu
  have := e3 j _ hl 0 u hu
  simpa using this
end Go.Proofs.Ytabdpebokpjljaa
