/- More words of memory: make, stores into a row of bytes that the call owns. -/
import Derived.Test.YtabdpebokpjljaaM
namespace Go.Proofs.Ytabdpebokpjljaa
open Go.RowKit

/-- make([]byte, n), in the walk's form. -/
theorem wp_make {ops : Array Oper} {rest : List Oper} {o : Oper} {a : Act} {w : World} {Q : Exit → Act → World → Prop} (hgd : o.guard = none) (l c : Operand)
    (ho : o.op = .makeSlice 27 l c) (n : Nat) (kl kc : IntKind) (L C : Int) (hl : a.eval l = .int kl L) (hc : a.eval c = .int kc C) (hL : L = n) (hC : C = n) (hmax : n ≤ 10000000)
    (h : ∀ w', Ow w' w.heap.size n (List.replicate n 0) → Chg w w' [] → wpList Try.prog ops Q rest (a.put o.dst (.slice (some ⟨w.heap.size, 0, none⟩) n n)) w') :
    wpList Try.prog ops Q (o :: rest) a w := by
  obtain ⟨i, hi, hz0, hz1, hz2⟩ := info_parts info5
  refine wpList_make_full w hgd l c 27 ho w.heap.size 5 i (.int .u8 0) 1 Try.underlying27 hi hz0 hz1 kl kc L C n hl hc hL hC (by rw [hz2]; omega) (by unfold maxLen; omega) (Nat.le_refl _) (fun w' hown hg => ?_)
  refine h w' ?_ ⟨hg.os, hg.tape, hg.output, hg.size, fun k hk _ => hg.block k hk (by simp)⟩
  obtain ⟨h1, h2⟩ := hown
  rcases h2 with ⟨h2, _⟩ | ⟨g, cap, cur, hv, _, hh, r1, r2, r3, r4⟩
  · cases h2
  · injection hv with e1 e2 e3
    injection e1 with e1
    injection e1 with e1 _ _
    subst e1
    subst e3
    have hr : (madeCells (Value.int .u8 0).cells (n * 1)).toList = (List.replicate n (0 : UInt8)).map bv := by
      rw [Nat.mul_one, show (Value.int .u8 0).cells = #[Value.int .u8 0] from rfl, toList_madeCells_one, List.map_replicate]
      rfl
    refine ⟨cur, hh, by simp, r2, r3, by simp, ?_⟩
    rw [← hr, List.length_replicate]
    exact r4

theorem Own.set {w : World} {e : TypeId} {g c n : Nat} {xs : List Value} (h : Own w e 1 g c n xs) (i : Nat) (v : Value) : Own (w.setCell ⟨g, i, none⟩ v) e 1 g c n (xs.set i v) := by
  obtain ⟨cur, h1, h2, h3, h4, h5, h6⟩ := h
  refine ⟨_, heap_set i v h1, h2, h3, by simpa using h4, by simpa using h5, ?_⟩
  rw [Array.toList_setIfInBounds, List.take_set, h6]
theorem Ow.set {w : World} {g c : Nat} {l : List UInt8} (h : Ow w g c l) (i : Nat) (v : Value) (b : UInt8) (hv : v = bv b) : Ow (w.setCell ⟨g, i, none⟩ v) g c (l.set i b) := by
  subst hv
  have := Own.set h i (bv b)
  unfold Ow
  rw [List.length_set, List.map_set]
  exact this
theorem Ow.cellAt {w : World} {g c : Nat} {l : List UInt8} (h : Ow w g c l) {j : Nat} (hj : j < l.length) : w.cell? ⟨g, j, none⟩ = some (bv l[j]) :=
  Own.cellAt h (by simp [hj])
theorem wf_u32 {n : Int} (h : (Lit.int .u32 n).wf = true) : ∃ k : Nat, n = k ∧ k < 4294967296 := by
  simp [Lit.wf, IntKind.min, IntKind.max, IntKind.signed, IntKind.bits] at h
  exact ⟨n.toNat, by omega, by omega⟩
theorem wf_u8 {n : Int} (h : (Lit.int .u8 n).wf = true) : ∃ b : UInt8, n = (b.toNat : Int) := by
  simp [Lit.wf, IntKind.min, IntKind.max, IntKind.signed, IntKind.bits] at h
  exact ⟨UInt8.ofNat n.toNat, by rw [UInt8.toNat_ofNat']; omega⟩
theorem wf_u16 {n : Int} (h : (Lit.int .u16 n).wf = true) : ∃ k : Nat, n = k ∧ k < 65536 := by
  simp [Lit.wf, IntKind.min, IntKind.max, IntKind.signed, IntKind.bits] at h
  exact ⟨n.toNat, by omega, by omega⟩
theorem wf_u64 {n : Int} (h : (Lit.int .u64 n).wf = true) : ∃ k : Nat, n = k ∧ k < 18446744073709551616 := by
  simp [Lit.wf, IntKind.min, IntKind.max, IntKind.signed, IntKind.bits] at h
  exact ⟨n.toNat, by omega, by omega⟩
theorem wf_i64 {n : Int} (h : (Lit.int .i64 n).wf = true) : -9223372036854775808 ≤ n ∧ n ≤ 9223372036854775807 := by
  simp [Lit.wf, IntKind.min, IntKind.max, IntKind.signed, IntKind.bits] at h
  exact ⟨by omega, by omega⟩
end Go.Proofs.Ytabdpebokpjljaa
