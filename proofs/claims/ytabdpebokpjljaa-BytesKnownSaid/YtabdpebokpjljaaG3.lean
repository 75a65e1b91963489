/- A slice of uint32 that came in, opened, with its capacity. -/
import Derived.Test.YtabdpebokpjljaaG2
import Derived.Lib.SlBytesConst
namespace Go.Proofs.Ytabdpebokpjljaa
open Go.RowKit Go.ChangeShapes Go.WideShapes Go.Deep
set_option maxRecDepth 100000

theorem open_u32c {H : Type} {enc : TypeId × Value → H} {w : World} {base : Nat} {spare : Nat → Bool} {held : Bool} {r : Reach} {b0 : Nat} {v : Value} {d : DataW H} {p : List MemPlace}
    (hv : Value.okWide Try.prog w r b0 54 v) (h : DataW.Trod enc Try.prog w base spare held 54 v d p) :
    ∃ ao n c l, v = .slice ao n c ∧ (AIn (fun k : Nat => [.int .u32 k]) 1 (· < 4294967296) w ao n l ∧ n ≤ c) := by
  obtain ⟨ao, n, c, l, rfl, hA⟩ := open_u32s hv h
  refine ⟨ao, n, c, l, rfl, hA, ?_⟩
  obtain ⟨fuel, hf⟩ := h
  rcases open_slice Try.underlying54 hf with ⟨h0, _⟩ | ⟨a, len, cap, m, k, D, Pl, hcs, hb, hl, hm, _⟩
  · have e0 : Value.slice ao n c = .slice none 0 0 := by simpa [Value.cells] using h0
    injection e0 with e1 e2 e3
    omega
  · have e0 : Value.slice ao n c = .slice (some a) len cap := by simpa [Value.cells] using hcs
    injection e0 with e1 e2 e3
    omega

/-- A literal of bytes, with its mark. -/
theorem bs_litM (w : World) (l : List UInt8) (fr : Nat × Nat) (hl : l.length ≤ 1000) : Bs (w.alloc (.cells (l.map bv).toArray 5 fr)) (some ⟨w.heap.size, 0, none⟩) l.length l.length l := by
  refine ⟨rfl, Nat.le_refl _, by unfold maxLen; omega, by simp, fun x hx => by obtain rfl := Option.some.inj hx; exact ⟨rfl, by simp⟩, by simp, by simp, fun x hx j u hu => ?_⟩
  obtain rfl := Option.some.inj hx
  rw [Addr.add_lit, Nat.zero_add, World.cell?_alloc_mark]
  simpa using hu
end Go.Proofs.Ytabdpebokpjljaa
