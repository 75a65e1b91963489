/- Walks: a law's reader; the small story of chapter 10 (works) answers true. -/
import Derived.Test.YtabdpebokpjljaaF5
namespace Go.Proofs.Ytabdpebokpjljaa
open Go.RowKit

/-- A reader that was made since the world w0; nothing of w0 has turned. -/
structure RdIn (w0 w : World) (g : Nat) (xs : List Nat) (l : List UInt8) (br : Bool) : Prop where
  rd : Rd w g xs l br
  chg : Chg w0 w []
  ge : w0.heap.size ≤ g
  gex : ∀ x, x ∈ xs → w0.heap.size ≤ x

theorem RdIn.step {w0 w w' : World} {g : Nat} {xs : List Nat} {l : List UInt8} {br : Bool} {S : List Nat} (h : RdIn w0 w g xs l br) (hc : Chg w w' S) (h1 : g ∉ S) (h2 : ∀ x, x ∈ xs → x ∉ S) (hS : ∀ k, k ∈ S → w0.heap.size ≤ k) : RdIn w0 w' g xs l br :=
  ⟨h.rd.keep hc h1 h2, h.chg.step hc hS, h.ge, h.gex⟩
theorem RdIn.new {w0 w w' : World} {g : Nat} {xs : List Nat} {l : List UInt8} {br : Bool} (h : RdIn w0 w g xs l br) (hc : Chg w w' []) : RdIn w0 w' g xs l br := h.step hc (by simp) (by simp) (by simp)
theorem RdIn.alloc {w0 w : World} {g : Nat} {xs : List Nat} {l : List UInt8} {br : Bool} (h : RdIn w0 w g xs l br) (o : Obj) : RdIn w0 (w.alloc o) g xs l br := h.new ((Chg.refl w []).alloc o)

/-- What a call leaves that changes a law's reader. -/
def RdOut (w0 w : World) (g : Nat) (xs : List Nat) (v : Value) (l : List UInt8) (br : Bool) (e : Ending) (w' : World) : Prop :=
  e = .returned v ∧ ∃ xs', RdIn w0 w' g xs' l br ∧ Chg w w' (g :: xs) ∧ ∀ x, x ∈ xs' → x ∈ xs ∨ w.heap.size ≤ x
/-- What Next leaves of a law's reader. -/
def NextOut (w0 w : World) (g : Nat) (xs : List Nat) (r : (Int × List UInt8 × Bool × Int) × List UInt8 × Bool) (e : Ending) (w' : World) : Prop :=
  ∃ ao c xs', e = .returned (.tuple #[.int .i64 r.1.1, .slice ao r.1.2.1.length c, .bool r.1.2.2.1, .int .i64 r.1.2.2.2]) ∧ Bs w' ao r.1.2.1.length c r.1.2.1 ∧
    (∀ y, ao = some y → w.heap.size ≤ y.block ∧ y.block ≠ g ∧ y.block ∉ xs') ∧ RdIn w0 w' g xs' r.2.1 r.2.2 ∧ Chg w w' [g] ∧ ∀ x, x ∈ xs' → x ∈ xs ∨ w.heap.size ≤ x

theorem new_in (w : World) : Calls Try.prog 20 #[] w fun e w' => ∃ g, e = .returned (.pointer (some ⟨g, 0, none⟩)) ∧ RdIn w w' g [] [] false ∧ w.heap.size ≤ g :=
  (newReader_any w).mono fun _ _ ⟨g, h1, h2, h3, h4⟩ => ⟨g, h1, ⟨h2, h3, h4, by simp⟩, h4⟩

theorem push_in (w0 : World) (g : Nat) (xs : List Nat) (l : List UInt8) (br : Bool) (ao : Option Addr) (n c : Nat) (b : List UInt8) (w : World) (h : RdIn w0 w g xs l br) (hb : Bs w ao n c b) (hl : l.length ≤ 1000000) (hbl : b.length ≤ 1000000) :
    Calls Try.prog 21 #[.pointer (some ⟨g, 0, none⟩), .slice ao n c] w (RdOut w0 w g xs (.int .i64 (pushS l br b).1) (pushS l br b).2.1 (pushS l br b).2.2) := by
  refine (push_any g xs l br ao n c b w h.rd hb hl hbl).mono ?_
  rintro e w' ⟨rfl, xs', h1, h2, h3⟩
  have hs := h.chg.size
  refine ⟨rfl, xs', ⟨h1, h.chg.step h2 ?_, h.ge, fun x hx => ?_⟩, h2, h3⟩
  · intro k hk
    rw [List.mem_cons] at hk
    rcases hk with rfl | hk
    · exact h.ge
    · exact h.gex k hk
  · rcases h3 x hx with h4 | h4
    · exact h.gex x h4
    · omega

theorem next_in (w0 : World) (g : Nat) (xs : List Nat) (l : List UInt8) (br : Bool) (w : World) (h : RdIn w0 w g xs l br) (hl : l.length ≤ 1000000) :
    Calls Try.prog 25 #[.pointer (some ⟨g, 0, none⟩)] w (NextOut w0 w g xs (nextS l br)) := by
  refine (next_any g xs l br w h.rd hl).mono ?_
  rintro e w' ⟨ao, c, xs', h0, h1, h2, h3, h4, h5⟩
  have hs := h.chg.size
  refine ⟨ao, c, xs', h0, h1, h2, ⟨h3, h.chg.step h4 (by simp; exact h.ge), h.ge, fun x hx => ?_⟩, h4, h5⟩
  rcases h5 x hx with h6 | h6
  · exact h.gex x h6
  · omega

/-- A literal of bytes. -/
theorem bs_lit (w : World) (l : List UInt8) (hl : l.length ≤ 1000) : Bs (w.alloc (.cells (l.map bv).toArray 5)) (some ⟨w.heap.size, 0, none⟩) l.length l.length l := by
  refine ⟨rfl, Nat.le_refl _, by unfold maxLen; omega, by simp, fun x hx => by obtain rfl := Option.some.inj hx; exact ⟨rfl, by simp⟩, by simp, by simp, fun x hx j u hu => ?_⟩
  obtain rfl := Option.some.inj hx
  rw [Addr.add_lit, Nat.zero_add, World.cell?_alloc_new]
  simpa using hu

set_option maxRecDepth 100000 in
set_option maxHeartbeats 1000000 in
theorem works10 (w : World) : Calls Try.prog 23 #[] w (Yes w) := by
  have p1 : ∀ (W : World) (g : Nat) (n : Nat), n = W.heap.size → RdIn w W g [] [] false → Calls Try.prog 21 #[.pointer (some ⟨g, 0, none⟩), .slice (some ⟨n, 0, none⟩) 6 6] (W.alloc (.cells #[.int .u8 0, .int .u8 0, .int .u8 0, .int .u8 3, .int .u8 5, .int .u8 171] 5))
      (RdOut w (W.alloc (.cells #[.int .u8 0, .int .u8 0, .int .u8 0, .int .u8 3, .int .u8 5, .int .u8 171] 5)) g [] (.int .i64 0) [0, 0, 0, 3, 5, 171] false) := fun W g n hn h => by
    subst hn
    exact push_in w g [] [] false _ 6 6 [0, 0, 0, 3, 5, 171] _ (h.alloc _) (bs_lit W [0, 0, 0, 3, 5, 171] (by decide)) (by decide) (by decide)
  have p2 : ∀ (W : World) (g : Nat) (xs : List Nat), RdIn w W g xs [0, 0, 0, 3, 5, 171] false → Calls Try.prog 25 #[.pointer (some ⟨g, 0, none⟩)] W (NextOut w W g xs ((0, [], false, 0), [0, 0, 0, 3, 5, 171], false)) := fun W g xs h => next_in w g xs _ false W h (by decide)
  have p3 : ∀ (W : World) (g : Nat) (xs : List Nat) (n : Nat), n = W.heap.size → RdIn w W g xs [0, 0, 0, 3, 5, 171] false → Calls Try.prog 21 #[.pointer (some ⟨g, 0, none⟩), .slice (some ⟨n, 0, none⟩) 1 1] (W.alloc (.cells #[.int .u8 205] 5))
      (RdOut w (W.alloc (.cells #[.int .u8 205] 5)) g xs (.int .i64 0) [0, 0, 0, 3, 5, 171, 205] false) := fun W g xs n hn h => by
    subst hn
    exact push_in w g xs _ false _ 1 1 [205] _ (h.alloc _) (bs_lit W [205] (by decide)) (by decide) (by decide)
  have p4 : ∀ (W : World) (g : Nat) (xs : List Nat), RdIn w W g xs [0, 0, 0, 3, 5, 171, 205] false → Calls Try.prog 25 #[.pointer (some ⟨g, 0, none⟩)] W (NextOut w W g xs ((5, [171, 205], true, 0), [], false)) := fun W g xs h => next_in w g xs _ false W h (by decide)
  have P1 := hid p1
  have P2 := hid p2
  have P3 := hid p3
  have P4 := hid p4
  clear p1 p2 p3 p4
  go_enter Try.func23, Try.ntmps23
  go_wp2_with fail
  refine (new_in _).mono ?_
  rintro e w1 ⟨g, rfl, h1, hg1⟩
  go_wp2_with fail
  refine (P1.out _ _ _ rfl h1).mono ?_
  rintro e w2 ⟨rfl, xs2, h2, hc2, hx2⟩
  go_wp2_with fail
  refine (P2.out _ _ _ h2).mono ?_
  rintro e w3 ⟨a3, c3, xs3, rfl, hb3, hy3, h3, hc3, hx3⟩
  go_wp2_with fail
  refine (P3.out _ _ _ _ rfl h3).mono ?_
  rintro e w4 ⟨rfl, xs4, h4, hc4, hx4⟩
  go_wp2_with fail
  refine (P4.out _ _ _ h4).mono ?_
  rintro e w5 ⟨a5, c5, xs5, rfl, hb5, hy5, h5, hc5, hx5⟩
  have heq : (convert 27 9 (.slice a5 2 c5)).run Try.prog w5 = .ok (.string (str [171, 205])) w5 := run_str hb5
  go_wp2_with fail
  go_ret
  exact ⟨rfl, h5.chg.below0⟩
end Go.Proofs.Ytabdpebokpjljaa
