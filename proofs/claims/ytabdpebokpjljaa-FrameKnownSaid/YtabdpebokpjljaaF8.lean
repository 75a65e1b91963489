/- Walks: readers that are none: nil, and one that NewReader did not make. -/
import Derived.Test.YtabdpebokpjljaaF7
namespace Go.Proofs.Ytabdpebokpjljaa
open Go.RowKit

/-- A reader that NewReader did not make. -/
def Emp (w : World) (g : Nat) : Prop := w.cell? ⟨g, 1, none⟩ = some (.bool false) ∧ g < w.heap.size
theorem Emp.keep {w w' : World} {g : Nat} {S : List Nat} (h : Emp w g) (hc : Chg w w' S) (hn : g ∉ S) : Emp w' g :=
  ⟨by rw [hc.cell h.2 hn]; exact h.1, Nat.lt_of_lt_of_le h.2 hc.size⟩

set_option maxHeartbeats 400000 in
theorem rerr_nil (w : World) : Calls Try.prog 61 #[.pointer none] w fun e w' => e = .returned (.int .i64 1) ∧ w = w' := by
  go_enter Try.func61, Try.ntmps61
  go_wp2
  go_ret
  exact ⟨rfl, rfl⟩
set_option maxHeartbeats 400000 in
theorem rerr_emp (g : Nat) (w : World) (h : Emp w g) : Calls Try.prog 61 #[.pointer (some ⟨g, 0, none⟩)] w fun e w' => e = .returned (.int .i64 1) ∧ w = w' := by
  have h1 := h.1
  clear h
  go_enter Try.func61, Try.ntmps61
  go_wp2
  go_ret
  exact ⟨rfl, rfl⟩
set_option maxHeartbeats 400000 in
theorem push_nil (w : World) : Calls Try.prog 21 #[.pointer none, .slice none 0 0] w fun e w' => e = .returned (.int .i64 1) ∧ w = w' := by
  go_enter Try.func21, Try.ntmps21
  go_wp2_with (go_at_call 61; refine (rerr_nil _).mono ?_; rintro e w1 ⟨rfl, rfl⟩)
  go_ret
  exact ⟨rfl, rfl⟩
set_option maxHeartbeats 400000 in
theorem push_emp (g : Nat) (w : World) (h : Emp w g) : Calls Try.prog 21 #[.pointer (some ⟨g, 0, none⟩), .slice none 0 0] w fun e w' => e = .returned (.int .i64 1) ∧ w = w' := by
  have H := hid h
  clear h
  go_enter Try.func21, Try.ntmps21
  go_wp2_with (go_at_call 61; refine (rerr_emp _ _ H.out).mono ?_; rintro e w1 ⟨rfl, rfl⟩)
  go_ret
  exact ⟨rfl, rfl⟩
set_option maxHeartbeats 400000 in
theorem held_nil (w : World) : Calls Try.prog 22 #[.pointer none] w fun e w' => e = .returned (.int .i64 0) ∧ w = w' := by
  go_enter Try.func22, Try.ntmps22
  go_wp2
  go_ret
  exact ⟨rfl, rfl⟩
set_option maxHeartbeats 400000 in
theorem broken_nil (w : World) : Calls Try.prog 27 #[.pointer none] w fun e w' => e = .returned (.bool false) ∧ w = w' := by
  go_enter Try.func27, Try.ntmps27
  go_wp2_with (go_at_call 61; refine (rerr_nil _).mono ?_; rintro e w1 ⟨rfl, rfl⟩)
  go_ret
  exact ⟨rfl, rfl⟩
set_option maxHeartbeats 400000 in
theorem broken_emp (g : Nat) (w : World) (h : Emp w g) : Calls Try.prog 27 #[.pointer (some ⟨g, 0, none⟩)] w fun e w' => e = .returned (.bool false) ∧ w = w' := by
  have H := hid h
  clear h
  go_enter Try.func27, Try.ntmps27
  go_wp2_with (go_at_call 61; refine (rerr_emp _ _ H.out).mono ?_; rintro e w1 ⟨rfl, rfl⟩)
  go_ret
  exact ⟨rfl, rfl⟩
set_option maxHeartbeats 400000 in
theorem next_nil (w : World) : Calls Try.prog 25 #[.pointer none] w fun e w' => e = .returned (.tuple #[.int .i64 0, .slice none 0 0, .bool false, .int .i64 1]) ∧ Chg w w' [] := by
  go_enter_defers Try.func25, Try.ntmps25
  go_wp2_with (go_at_call 61; refine (rerr_nil _).mono ?_; rintro e w1 ⟨rfl, rfl⟩)
  have hC : ∀ v : Value, Chg w ((w.alloc (.cells #[.pointer none] 23)).alloc (.cells #[v] 25)) [] := fun v => ((Chg.refl w []).alloc _).alloc _
  refine next_results0 rfl rfl rfl rfl (by simp [World.cell?_alloc_at]) ⟨rfl, hC _⟩
end Go.Proofs.Ytabdpebokpjljaa
