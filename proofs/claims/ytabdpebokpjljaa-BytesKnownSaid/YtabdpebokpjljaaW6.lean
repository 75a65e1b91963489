/- Walks: the small story of chapter 4 (works) answers true. -/
import Derived.Test.YtabdpebokpjljaaW5
namespace Go.Proofs.Ytabdpebokpjljaa
open Go.RowKit

/-- A string's first m bytes. -/
def cutB (s : ByteArray) (m : Nat) : ByteArray := s.extract 0 (min s.size m)
theorem cutB_size (s : ByteArray) (m : Nat) : (cutB s m).size = min s.size m := by simp [cutB, ByteArray.size_extract]

theorem cutB_lt {s : ByteArray} {m : Nat} (h : m < s.size) : cutB s m = s.extract 0 m := by rw [cutB, Nat.min_eq_right (by omega)]
theorem cutB_ge {s : ByteArray} {m : Nat} (h : ¬ m < s.size) : cutB s m = s := by rw [cutB, Nat.min_eq_left (by omega)]; simp

set_option maxHeartbeats 400000 in
theorem cut04 (s : ByteArray) (m : Nat) (w : World) (hs : s.size ≤ 9223372036854775807) (hm : m ≤ 9223372036854775807) :
    Calls Try.prog 28 #[.string s, .int .i64 m] w fun e w' => e = .returned (.string (cutB s m)) ∧ w = w' := by
  go_enter Try.func28, Try.ntmps28
  go_wp2
  · have h : m < s.size := by assumption
    go_ret
    exact ⟨by rw [cutB_lt h]; rfl, rfl⟩
  · have h : ¬ m < s.size := by assumption
    go_ret
    exact ⟨by rw [cutB_ge h]; rfl, rfl⟩

/-- What a law leaves: true, and nothing that was there has turned. -/
def Yes (w : World) (e : Ending) (w' : World) : Prop := e = .returned (.bool true) ∧ Below w.heap.size w w'

set_option maxHeartbeats 400000 in
theorem works04 (w : World) : Calls Try.prog 33 #[] w (Yes w) := by
  have p1 : ∀ W : World, Calls Try.prog 29 #[.slice none 0 0, .int .i64 2, .int .u64 513] W (NewRow W [2, 1]) := fun W => put_any none 0 0 [] 2 513 W (Bs.nil _) (by omega) (by simp)
  have p2 : ∀ (W : World) (g c : Nat), Ow W g c [2, 1] → Calls Try.prog 30 #[.slice (some ⟨g, 0, none⟩) 2 c, .string ⟨#[97, 98]⟩] W (NewRowE W [2, 1, 0, 2, 97, 98] 0) := fun W g c h => putText_ok _ _ _ _ _ _ h.bs (by simp) (by decide)
  have p4 : ∀ (W : World) (g r : Nat), Tp W g r ([2, 1, 0, 2, 97, 98], false) → Calls Try.prog 39 #[.pointer (some ⟨g, 0, none⟩), .int .i64 2] W (TpTo W g r (.int .u64 513) ([0, 2, 97, 98], false)) := fun W g r h => num_any g r _ 2 W h
  have p5 : ∀ (W : World) (g r : Nat), Tp W g r ([0, 2, 97, 98], false) → Calls Try.prog 45 #[.pointer (some ⟨g, 0, none⟩), .int .i64 2] W (TpTo W g r (.string (str [97, 98])) ([], false)) := fun W g r h => text_any g r _ 2 W h (by decide)
  have p6 : ∀ (W : World) (g r : Nat), Tp W g r ([], false) → Calls Try.prog 47 #[.pointer (some ⟨g, 0, none⟩)] W (TpTo W g r (.int .i64 0) ([], false)) := fun W g r h => end_any g r _ W h
  have P1 := hid p1
  have P2 := hid p2
  have P4 := hid p4
  have P5 := hid p5
  have P6 := hid p6
  clear p1 p2 p4 p5 p6
  go_enter Try.func33, Try.ntmps33
  go_wp2_with (first
    | (go_at_call 29; refine (P1.out _).mono ?_; rintro e w1 ⟨g1, c1, rfl, hown1, hchg1, hge1⟩)
    | (go_at_call 30; refine (P2.out _ _ _ hown1).mono ?_; rintro e w2 ⟨g2, c2, rfl, hown2, hchg2, hge2⟩)
    | (go_at_call 36; refine (newTape_any _ _ _ _ _ hown2.bs (by simp)).mono ?_; rintro e w3 ⟨g, r, rfl, ht3, hchg3, hge3, hger3⟩)
    | (go_at_call 39; refine (P4.out _ _ _ ht3).mono ?_; rintro e w4 ⟨rfl, ht4, hchg4⟩)
    | (go_at_call 45; refine (P5.out _ _ _ ht4).mono ?_; rintro e w5 ⟨rfl, ht5, hchg5⟩; have hbs := hown2.bs.keep ((hchg3.trans hchg4 (by simp; omega)).trans hchg5 (by simp; omega)) (by simp); have heq : (convert 27 9 (.slice (some ⟨g2, 0, none⟩) 6 c2)).run Try.prog w5 = .ok (.string (str [2, 1, 0, 2, 97, 98])) w5 := run_str hbs)
    | (go_at_call 47; refine (P6.out _ _ _ ht5).mono ?_; rintro e w6 ⟨rfl, ht6, hchg6⟩))
  go_ret
  have s1 := hchg1.size
  have s2 := hchg2.size
  have h2 : Chg w w2 [] := hchg1.trans hchg2 (by simp)
  have h3 : Chg w w3 [] := h2.trans hchg3 (by simp)
  have h4 : Chg w w4 [] := h3.trans hchg4 (by simp; omega)
  have h5 : Chg w w5 [] := h4.trans hchg5 (by simp; omega)
  exact ⟨rfl, (h5.trans hchg6 (by simp; omega)).below0⟩
end Go.Proofs.Ytabdpebokpjljaa
