/- Walks: tapes that are none: nil, and one that NewTape did not make; PutRow of too many. -/
import Derived.Test.YtabdpebokpjljaaV3
import Derived.Test.YtabdpebokpjljaaG3
namespace Go.Proofs.Ytabdpebokpjljaa
open Go.RowKit

theorem tear_nil (w : World) : Calls Try.prog 51 #[.pointer none] w fun e w' => e = .returned (.tuple #[]) ∧ w = w' := by
  go_enter Try.func51, Try.ntmps51
  go_wp2
  go_end0
  exact ⟨rfl, rfl⟩
theorem err_nil (w : World) : Calls Try.prog 43 #[.pointer none] w fun e w' => e = .returned (.int .i64 1) ∧ w = w' := by
  go_enter Try.func43, Try.ntmps43
  go_wp2
  go_ret
  exact ⟨rfl, rfl⟩
theorem take_nil (k : Int) (w : World) : Calls Try.prog 66 #[.pointer none, .int .i64 k] w fun e w' => e = .returned (.tuple #[.slice none 0 0, .bool false]) ∧ w = w' := by
  go_enter Try.func66, Try.ntmps66
  go_wp2_with (go_at_call 65; refine (whole_nil _).mono ?_; rintro e w1 ⟨rfl, rfl⟩)
  go_ret2
  exact ⟨rfl, rfl⟩
theorem num_nil (w : World) : Calls Try.prog 39 #[.pointer none, .int .i64 1] w fun e w' => e = .returned (.int .u64 0) ∧ w = w' := by
  go_enter Try.func39, Try.ntmps39
  go_wp2_with (first
    | (go_at_call 63; refine (may_yes 1 _ (by omega)).mono ?_; rintro e w1 ⟨rfl, rfl⟩)
    | (go_at_call 66; refine (take_nil _ _).mono ?_; rintro e w1 ⟨rfl, rfl⟩))
  go_ret
  exact ⟨rfl, rfl⟩
theorem end_nil (w : World) : Calls Try.prog 47 #[.pointer none] w fun e w' => e = .returned (.int .i64 1) ∧ w = w' := by
  go_enter Try.func47, Try.ntmps47
  go_wp2_with (go_at_call 43; refine (err_nil _).mono ?_; rintro e w1 ⟨rfl, rfl⟩)
  go_ret
  exact ⟨rfl, rfl⟩
theorem left_nil (w : World) : Calls Try.prog 41 #[.pointer none] w fun e w' => e = .returned (.int .i64 0) ∧ w = w' := by
  go_enter Try.func41, Try.ntmps41
  go_wp2
  go_ret
  exact ⟨rfl, rfl⟩

/-- A tape that NewTape did not make. -/
def EmpT (w : World) (g : Nat) : Prop := w.cell? ⟨g, 1, none⟩ = some (.bool false) ∧ w.cell? ⟨g, 2, none⟩ = some (.bool false) ∧ g < w.heap.size
theorem EmpT.keep {w w' : World} {g : Nat} {S : List Nat} (h : EmpT w g) (hc : Chg w w' S) (hn : g ∉ S) : EmpT w' g :=
  ⟨by rw [hc.cell h.2.2 hn]; exact h.1, by rw [hc.cell h.2.2 hn]; exact h.2.1, Nat.lt_of_lt_of_le h.2.2 hc.size⟩
theorem err_emp (g : Nat) (w : World) (h : EmpT w g) : Calls Try.prog 43 #[.pointer (some ⟨g, 0, none⟩)] w fun e w' => e = .returned (.int .i64 1) ∧ w = w' := by
  have h1 := h.1
  clear h
  go_enter Try.func43, Try.ntmps43
  go_wp2
  go_ret
  exact ⟨rfl, rfl⟩
theorem take_emp (g : Nat) (k : Int) (w : World) (h : EmpT w g) : Calls Try.prog 66 #[.pointer (some ⟨g, 0, none⟩), .int .i64 k] w fun e w' => e = .returned (.tuple #[.slice none 0 0, .bool false]) ∧ w = w' := by
  have HW := hid (whole_any g false false w h.1 h.2.1)
  clear h
  go_enter Try.func66, Try.ntmps66
  go_wp2_with (go_at_call 65; refine HW.out.mono ?_; rintro e w1 ⟨rfl, rfl⟩)
  go_ret2
  exact ⟨rfl, rfl⟩
theorem bytes_emp (g : Nat) (w : World) (h : EmpT w g) : Calls Try.prog 52 #[.pointer (some ⟨g, 0, none⟩), .int .i64 0] w fun e w' => ∃ x c, e = .returned (.slice (some ⟨x, 0, none⟩) 0 c) ∧ Chg w w' [] := by
  have HT := hid (take_emp g 0 w h)
  clear h
  go_enter Try.func52, Try.ntmps52
  go_wp2_with (first
    | (go_at_call 66; refine HT.out.mono ?_; rintro e w1 ⟨rfl, rfl⟩)
    | (at_builtin; refine wp_app rfl _ _ rfl w.heap.size 0 0 [] rfl rfl (ow_empty w) none 0 0 [] rfl (Bs.nil _).src (by simp) ?_; intro x c' w2 hown hchg hor))
  go_ret
  exact ⟨x, c', rfl, ((Chg.refl w []).alloc _).trans hchg (by simp)⟩

theorem putRow49_long (v fv : Value) (ao : Option Addr) (n c : Nat) (w : World) (h : 65535 < n) (h2 : n ≤ 1000000) :
    Calls Try.prog 49 #[v, .slice ao n c, fv] w fun e w' => e = .returned (.tuple #[.slice none 0 0, .int .i64 3]) ∧ w = w' := by
  have h1 : (65535 : Int) < (n : Int) := by omega
  go_enter Try.func49, Try.ntmps49
  go_wp2
  go_ret2
  exact ⟨rfl, rfl⟩

theorem info3 : (Try.prog.info? 3).map (fun i => (i.zero, i.size, i.bytes)) = some (some (.int .i64 0), 1, 8) := by kernel_rfl
/-- make([]int, n), in the walk's form: the world has but grown. -/
theorem wp_makeI {ops : Array Oper} {rest : List Oper} {o : Oper} {a : Act} {w : World} {Q : Exit → Act → World → Prop} (hgd : o.guard = none) (l c : Operand)
    (ho : o.op = .makeSlice 75 l c) (n : Nat) (kl kc : IntKind) (L C : Int) (hl : a.eval l = .int kl L) (hc : a.eval c = .int kc C) (hL : L = n) (hC : C = n) (hmax : n ≤ 10000000)
    (h : ∀ w', Chg w w' [] → wpList Try.prog ops Q rest (a.put o.dst (.slice (some ⟨w.heap.size, 0, none⟩) n n)) w') :
    wpList Try.prog ops Q (o :: rest) a w := by
  obtain ⟨i, hi, hz0, hz1, hz2⟩ := info_parts info3
  refine wpList_make_full w hgd l c 75 ho w.heap.size 3 i (.int .i64 0) 1 Try.underlying75 hi hz0 hz1 kl kc L C n hl hc hL hC (by rw [hz2]; omega) (by unfold maxLen; omega) (Nat.le_refl _) (fun w' hown hg => ?_)
  exact h w' ⟨hg.os, hg.tape, hg.output, hg.size, fun k hk _ => hg.block k hk (by simp)⟩
end Go.Proofs.Ytabdpebokpjljaa
