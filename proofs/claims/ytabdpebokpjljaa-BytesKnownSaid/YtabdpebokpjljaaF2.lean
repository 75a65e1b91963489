import Derived.Test.YtabdpebokpjljaaF1
import Derived.Defers
import Derived.Deep.RegionHeld
namespace Go.Proofs.Ytabdpebokpjljaa
open Go.RowKit

set_option maxHeartbeats 400000 in
/-- Next's deferred closure where e is not ErrForm: nothing. -/
theorem nextD_no (er rr : Nat) (k : Int) (u : FrameMode) (w : World) (hk : (k == 4) = false) (he : w.cell? ⟨er, 0, none⟩ = some (.int .i64 k)) :
    CallsD Try.prog 62 #[.pointer (some ⟨er, 0, none⟩), .pointer (some ⟨rr, 0, none⟩)] u w fun e u' w' => u' = u ∧ (e = .returned (.tuple #[]) ∧ w' = w) := by
  go_enter_d Try.func62, Try.ntmps62
  go_wp2
  go_end0
  exact ⟨rfl, rfl⟩

set_option maxHeartbeats 400000 in
theorem nextD_yes (er rr g : Nat) (u : FrameMode) (w : World) (he : w.cell? ⟨er, 0, none⟩ = some (.int .i64 4)) (hr : w.cell? ⟨rr, 0, none⟩ = some (.pointer (some ⟨g, 0, none⟩)))
    (h2 : w.cell? ⟨g, 2, none⟩ = some (.bool false)) (f2 : w.frozen? ⟨g, 2, none⟩ = false) :
    CallsD Try.prog 62 #[.pointer (some ⟨er, 0, none⟩), .pointer (some ⟨rr, 0, none⟩)] u w fun e u' w' => u' = u ∧ (e = .returned (.tuple #[]) ∧ w' = w.setCell ⟨g, 2, none⟩ (.bool true)) := by
  go_enter_d Try.func62, Try.ntmps62
  go_wp2
  go_end0
  exact ⟨rfl, rfl⟩

theorem next_results {tmps : Array Value} {er : Nat} {k : Int} {w : World} {v2 v3 v4 : Value} (h2 : tmps.getD 2 undef = v2) (h3 : tmps.getD 3 undef = v3) (h4 : tmps.getD 4 undef = v4) (h5 : tmps.getD 5 undef = .pointer (some ⟨er, 0, none⟩))
    (he : w.cell? ⟨er, 0, none⟩ = some (.int .i64 k)) : (results Try.f25 tmps).run Try.prog w = .ok (.tuple #[v2, v3, v4, .int .i64 k]) w := by
  rw [Array.getD_eq_getD_getElem?] at h2 h3 h4 h5
  simp [results, Try.results25, go_sem, h2, h3, h4, h5, he]
  done

theorem next_leave_no {tmps : Array Value} {R : Ending → World → Prop} {er rr : Nat} {k : Int} {w : World} {v2 v3 v4 : Value} (h2 : tmps.getD 2 undef = v2) (h3 : tmps.getD 3 undef = v3) (h4 : tmps.getD 4 undef = v4) (h5 : tmps.getD 5 undef = .pointer (some ⟨er, 0, none⟩))
    (hk : (k == 4) = false) (he : w.cell? ⟨er, 0, none⟩ = some (.int .i64 k)) (hR : R (.returned (.tuple #[v2, v3, v4, .int .i64 k])) w) :
    bodyPostD Try.prog Try.f25 R Exit.ret { tmps := tmps, defers := [{ target := .fn (.func 62) #[.pointer (some ⟨er, 0, none⟩), .pointer (some ⟨rr, 0, none⟩)], args := #[] }] } w := by
  refine leaves_cons (f := 62) (args := #[.pointer (some ⟨er, 0, none⟩), .pointer (some ⟨rr, 0, none⟩)]) (by simp) (by simp [go_sem]) ?_
  refine (nextD_no er rr k .returning w hk he).mono ?_
  rintro e u' w'' ⟨rfl, rfl, rfl⟩
  exact ⟨_, next_results h2 h3 h4 h5 he, hR⟩

theorem next_leave_yes {tmps : Array Value} {R : Ending → World → Prop} {er rr g : Nat} {w : World} {v2 v3 v4 : Value} (h2 : tmps.getD 2 undef = v2) (h3 : tmps.getD 3 undef = v3) (h4 : tmps.getD 4 undef = v4) (h5 : tmps.getD 5 undef = .pointer (some ⟨er, 0, none⟩))
    (he : w.cell? ⟨er, 0, none⟩ = some (.int .i64 4)) (hr : w.cell? ⟨rr, 0, none⟩ = some (.pointer (some ⟨g, 0, none⟩)))
    (hb : w.cell? ⟨g, 2, none⟩ = some (.bool false)) (f2 : w.frozen? ⟨g, 2, none⟩ = false) (hne : er ≠ g) (hR : R (.returned (.tuple #[v2, v3, v4, .int .i64 4])) (w.setCell ⟨g, 2, none⟩ (.bool true))) :
    bodyPostD Try.prog Try.f25 R Exit.ret { tmps := tmps, defers := [{ target := .fn (.func 62) #[.pointer (some ⟨er, 0, none⟩), .pointer (some ⟨rr, 0, none⟩)], args := #[] }] } w := by
  refine leaves_cons (f := 62) (args := #[.pointer (some ⟨er, 0, none⟩), .pointer (some ⟨rr, 0, none⟩)]) (by simp) (by simp [go_sem]) ?_
  refine (nextD_yes er rr g .returning w he hr hb f2).mono ?_
  rintro e u' w'' ⟨rfl, rfl, rfl⟩
  refine ⟨_, next_results h2 h3 h4 h5 ?_, hR⟩
  rw [World.cell?_setCell_far _ _ _ _ (fun h => hne h.symm)]
  exact he

/-- What Next leaves where it hands out no frame. -/
def NextNo (w : World) (g : Nat) (xs : List Nat) (l : List UInt8) (br : Bool) (k : Int) (e : Ending) (w' : World) : Prop :=
  e = .returned (.tuple #[.int .i64 0, .slice none 0 0, .bool false, .int .i64 k]) ∧ Rd w' g xs l br ∧ Chg w w' [g]

set_option maxHeartbeats 400000 in
theorem next_short (g : Nat) (xs : List Nat) (l : List UInt8) (w : World) (h : Rd w g xs l false) (hl : l.length < 4) :
    Calls Try.prog 25 #[.pointer (some ⟨g, 0, none⟩)] w (NextNo w g xs l false 0) := by
  obtain ⟨⟨bo, d, c0, hbo⟩, c1, c2, hf⟩ := h.cells
  have hg := h.lt
  have hp : ∀ W, Chg w W [] → Calls Try.prog 61 #[.pointer (some ⟨g, 0, none⟩)] W fun e w' => e = .returned (.int .i64 0) ∧ W = w' := fun W hc => by
    have := rerr_any g false W (by rw [hc.cell hg (by simp)]; exact c1) (by rw [hc.cell hg (by simp)]; exact c2)
    simpa using this
  have HP := hid hp
  have H := hid h
  have hmf : ∀ (fn : Fn) (first cap : Array Value) (w : World), (Instr.makeFunc fn first cap).run Try.prog w = .ok (.func fn first cap) w := fun _ _ _ _ => rfl
  have d1 : (l.length : Int) < 4 := by omega
  clear hp c1 c2 hf hbo h hl
  go_enter_defers Try.func25, Try.ntmps25
  go_wp2_with (go_at_call 61; refine (HP.out _ (((Chg.refl w []).alloc _).alloc _)).mono ?_; rintro e w1 ⟨rfl, rfl⟩)
  have hC : Chg w ((w.alloc (Obj.cells #[Value.pointer (some { block := g, off := 0 })] 23)).alloc (Obj.cells #[Value.int IntKind.i64 0] 25)) [] := ((Chg.refl w []).alloc _).alloc _
  refine next_leave_no rfl rfl rfl rfl rfl (by simp [World.cell?_alloc_at]) ⟨rfl, H.out.keep hC (by simp) (by simp), hC.mono (by simp)⟩
end Go.Proofs.Ytabdpebokpjljaa
