/- Walks: Next of the reader of package frame, where no frame comes out. -/
import Derived.Test.YtabdpebokpjljaaF3
namespace Go.Proofs.Ytabdpebokpjljaa
open Go.RowKit

theorem next_results0 {tmps : Array Value} {R : Ending → World → Prop} {er : Nat} {k : Int} {w : World} {v2 v3 v4 : Value} (h2 : tmps.getD 2 undef = v2) (h3 : tmps.getD 3 undef = v3) (h4 : tmps.getD 4 undef = v4) (h5 : tmps.getD 5 undef = .pointer (some ⟨er, 0, none⟩))
    (he : w.cell? ⟨er, 0, none⟩ = some (.int .i64 k)) (hR : R (.returned (.tuple #[v2, v3, v4, .int .i64 k])) w) :
    bodyPostD Try.prog Try.f25 R Exit.ret { tmps := tmps, defers := [] } w := ⟨_, next_results h2 h3 h4 h5 he, hR⟩

set_option maxHeartbeats 400000 in
theorem next_broken (g : Nat) (xs : List Nat) (l : List UInt8) (w : World) (h : Rd w g xs l true) :
    Calls Try.prog 25 #[.pointer (some ⟨g, 0, none⟩)] w (NextNo w g xs l true 4) := by
  obtain ⟨_, c1, c2, hf⟩ := h.cells
  have hg := h.lt
  have hp : ∀ W, Chg w W [] → Calls Try.prog 61 #[.pointer (some ⟨g, 0, none⟩)] W fun e w' => e = .returned (.int .i64 4) ∧ W = w' := fun W hc => by
    have := rerr_any g true W (by rw [hc.cell hg (by simp)]; exact c1) (by rw [hc.cell hg (by simp)]; exact c2)
    simpa using this
  have HP := hid hp
  have H := hid h
  clear hp c1 c2 hf h
  go_enter_defers Try.func25, Try.ntmps25
  go_wp2_with (go_at_call 61; refine (HP.out _ (((Chg.refl w []).alloc _).alloc _)).mono ?_; rintro e w1 ⟨rfl, rfl⟩)
  have hC : ∀ v : Value, Chg w ((w.alloc (.cells #[.pointer (some ⟨g, 0, none⟩)] 23)).alloc (.cells #[v] 25)) [] := fun v => ((Chg.refl w []).alloc _).alloc _
  refine next_results0 rfl rfl rfl rfl (by simp [World.cell?_alloc_at]) ⟨rfl, H.out.keep (hC _) (by simp) (by simp), (hC _).mono (by simp)⟩

theorem next_end_no {w w4 : World} {g er : Nat} {xs : List Nat} {l : List UInt8} {v : Value} (h : Rd w g xs l false) (k4 : Chg w w4 []) (he : w.heap.size ≤ er) :
    Rd (w4.setCell ⟨er, 0, none⟩ v) g xs l false ∧ Chg w (w4.setCell ⟨er, 0, none⟩ v) [g] := by
  have hg := h.lt
  have hx := h.ltx
  refine ⟨(h.keep k4 (by simp) (by simp)).keep (set_chg _ _ _ _) (by simp; omega) (fun x hx' => by have := hx x hx'; simp; omega), ?_⟩
  exact (k4.step (set_chg w4 er 0 v) (by simp; omega)).mono (by simp)

theorem next_end_yes {w w4 : World} {g er : Nat} {xs : List Nat} {l : List UInt8} {v : Value} (h : Rd w g xs l false) (k4 : Chg w w4 []) (he : w.heap.size ≤ er) :
    Rd ((w4.setCell ⟨er, 0, none⟩ v).setCell ⟨g, 2, none⟩ (.bool true)) g xs l true ∧ Chg w ((w4.setCell ⟨er, 0, none⟩ v).setCell ⟨g, 2, none⟩ (.bool true)) [g] := by
  obtain ⟨h1, h2⟩ := next_end_no (v := v) h k4 he
  exact ⟨h1.set2 true, h2.trans (set_chg _ _ _ _) (by simp)⟩

/-- What is known at the start of Next of a reader that holds at least four bytes. -/
structure NextAt (w : World) (g x c : Nat) (l : List UInt8) (n : Nat) : Prop where
  blk : w.heap[g]? = some (.cells #[.slice (some ⟨x, 0, none⟩) l.length c, .bool true, .bool false] 106)
  own : Ow w x c l
  ne : x ≠ g
  four : 4 ≤ l.length
  num : be (l.take 4) = n

section
variable {w : World} {g x c n : Nat} {l : List UInt8} (A : NextAt w g x c l n)
include A
theorem NextAt.rd : Rd w g [x] l false := .inr ⟨x, c, rfl, A.ne, A.blk, A.own⟩
theorem NextAt.c0 : w.cell? ⟨g, 0, none⟩ = some (.slice (some ⟨x, 0, none⟩) l.length c) := by rw [cell_of_row w g 0 _ _ _ A.blk]; rfl
theorem NextAt.err : ∀ W, Chg w W [] → Calls Try.prog 61 #[.pointer (some ⟨g, 0, none⟩)] W fun e w' => e = .returned (.int .i64 0) ∧ W = w' := fun W hc => by
  obtain ⟨_, c1, c2, _⟩ := A.rd.cells
  have hg := A.rd.lt
  have := rerr_any g false W (by rw [hc.cell hg (by simp)]; exact c1) (by rw [hc.cell hg (by simp)]; exact c2)
  simpa using this
theorem NextAt.tape : ∀ (W : World) (t r : Nat), Tp W t r (l.take 4, false) → Calls Try.prog 39 #[.pointer (some ⟨t, 0, none⟩), .int .i64 4] W (TpTo W t r (.int .u64 n) ([], false)) := fun W t r h => by
  have := num_any t r _ 4 W h
  have h4 := A.four
  rwa [numS, if_pos ⟨rfl, by unfold mayW; omega, by simp; omega⟩, show (4 : Int).toNat = 4 from rfl, List.take_take, Nat.min_self, A.num, List.drop_take, Nat.sub_self, List.take_zero] at this
theorem NextAt.sl : ∀ W, Chg w W [] → Bs W (some ⟨x, 0, none⟩) 4 c (l.take 4) := fun W hc => (A.own.bs.keep hc (by simp)).upto 4 A.four
theorem NextAt.mid {w3 w4 : World} {t : Nat} (h3 : Chg (nextBox w g) w3 []) (hge : (nextBox w g).heap.size ≤ t) (h4 : Chg w3 w4 [t]) :
    Chg w w4 [] ∧ w4.cell? ⟨g, 0, none⟩ = some (.slice (some ⟨x, 0, none⟩) l.length c) ∧ w4.cell? ⟨g, 2, none⟩ = some (.bool false) ∧ w4.cell? ⟨w.heap.size, 0, none⟩ = some (.pointer (some ⟨g, 0, none⟩)) ∧ w4.cell? ⟨w.heap.size + 1, 0, none⟩ = some (.int .i64 0) ∧
      w4.frozen? ⟨w.heap.size + 1, 0, none⟩ = false ∧ w4.frozen? ⟨g, 2, none⟩ = false ∧ ∀ j, (hj : j < l.length) → w4.cell? ⟨x, j, none⟩ = some (bv l[j]) := by
  obtain ⟨_, c1, c2, hf⟩ := A.rd.cells
  obtain ⟨k4, kc, b2, b3, b4, b5, ks⟩ := next_mid A.rd.lt hf h3 hge h4
  exact ⟨k4, (kc ⟨g, 0, none⟩ A.rd.lt).trans A.c0, (kc ⟨g, 2, none⟩ A.rd.lt).trans c2, b2, b3, b4, b5 2, fun j hj => (kc ⟨x, j, none⟩ A.own.lt).trans (A.own.cellAt hj)⟩
end

set_option maxRecDepth 100000 in
set_option maxHeartbeats 1000000 in
theorem next_badlen (g x c n : Nat) (l : List UInt8) (w : World) (A : NextAt w g x c l n) (hn : n < 1 ∨ 16385 < n) :
    Calls Try.prog 25 #[.pointer (some ⟨g, 0, none⟩)] w (NextNo w g [x] l true 4) := by
  have HA := hid A
  have hmf : ∀ (fn : Fn) (first cap : Array Value) (w : World), (Instr.makeFunc fn first cap).run Try.prog w = .ok (.func fn first cap) w := fun _ _ _ _ => rfl
  have c0 := A.c0
  have h4 := A.four
  have hg := A.rd.lt
  have d1 : (4 : Int) ≤ (l.length : Int) := by omega
  have hle := A.own.bs.2.1
  have hmx := A.own.bs.2.2.1
  have hn4 : n < 4294967296 := by rw [← A.num]; have := be_lt (l.take 4); rw [List.length_take, Nat.min_eq_left h4] at this; exact this
  unfold maxLen at hmx
  have d2 : (n : Int) ≤ 4294967295 := by omega
  have q1 : ¬ g = w.heap.size + 1 := by omega
  clear A hn4
  rcases hn with hn | hn
  · have d3 : (n : Int) < 1 := by omega
    go_enter_defers Try.func25, Try.ntmps25
    go_wp2_with (first
      | (go_at_call 61; refine (HA.out.err _ (((Chg.refl w []).alloc _).alloc _)).mono ?_; rintro e w1 ⟨rfl, rfl⟩)
      | (go_at_call 36; refine (newTape_any _ _ _ (l.take 4) _ (HA.out.sl _ (((Chg.refl w []).alloc _).alloc _)) (by simp; omega)).mono ?_; rintro e w3 ⟨t, r, rfl, ht3, hchg3, hge3, hger3⟩)
      | (go_at_call 39; refine (HA.out.tape _ _ _ ht3).mono ?_; rintro e w4 ⟨rfl, ht4, hchg4⟩; obtain ⟨k4, b0, b1, b2, b3, b4, b5, b6⟩ := HA.out.mid hchg3 hge3 hchg4))
    obtain ⟨k5, k6⟩ := next_end_yes (v := .int .i64 4) HA.out.rd k4 (Nat.le_succ _)
    exact next_leave_yes rfl rfl rfl rfl (cell_set_same b3) (by rw [World.cell?_setCell_far _ _ _ _ (by simp)]; exact b2) (by rw [World.cell?_setCell_far _ _ _ _ (fun h => q1 h.symm)]; exact b1) (by simp; exact b5) (fun h => q1 h.symm) ⟨rfl, k5, k6⟩
  · have d3 : (16385 : Int) < (n : Int) := by omega
    have d4 : decide ((n : Int) < 1) = false := by simp; omega
    go_enter_defers Try.func25, Try.ntmps25
    go_wp2_with (first
      | (go_at_call 61; refine (HA.out.err _ (((Chg.refl w []).alloc _).alloc _)).mono ?_; rintro e w1 ⟨rfl, rfl⟩)
      | (go_at_call 36; refine (newTape_any _ _ _ (l.take 4) _ (HA.out.sl _ (((Chg.refl w []).alloc _).alloc _)) (by simp; omega)).mono ?_; rintro e w3 ⟨t, r, rfl, ht3, hchg3, hge3, hger3⟩)
      | (go_at_call 39; refine (HA.out.tape _ _ _ ht3).mono ?_; rintro e w4 ⟨rfl, ht4, hchg4⟩; obtain ⟨k4, b0, b1, b2, b3, b4, b5, b6⟩ := HA.out.mid hchg3 hge3 hchg4))
    obtain ⟨k5, k6⟩ := next_end_yes (v := .int .i64 4) HA.out.rd k4 (Nat.le_succ _)
    exact next_leave_yes rfl rfl rfl rfl (cell_set_same b3) (by rw [World.cell?_setCell_far _ _ _ _ (by simp)]; exact b2) (by rw [World.cell?_setCell_far _ _ _ _ (fun h => q1 h.symm)]; exact b1) (by simp; exact b5) (fun h => q1 h.symm) ⟨rfl, k5, k6⟩
end Go.Proofs.Ytabdpebokpjljaa
