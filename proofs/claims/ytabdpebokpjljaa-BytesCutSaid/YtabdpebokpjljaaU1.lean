/- Walks: chapter 4's helpers kind, number, lay. -/
import Derived.Test.YtabdpebokpjljaaW6
import Derived.Test.YtabdpebokpjljaaG2
import Derived.Deep.RegionHeld3
import Derived.Deep.DeepCutAuto
import Derived.Deep.Cut
namespace Go.Proofs.Ytabdpebokpjljaa
open Go.RowKit

/-- Which one a thing is. -/
def kindS (x : Int) : Nat := if x.tmod 5 < 0 then 4 else (x.tmod 5).toNat
theorem tmod5 (x : Int) : -4 ≤ x.tmod 5 ∧ x.tmod 5 ≤ 4 := by
  have h1 := Int.tmod_lt_of_pos x (b := 5) (by omega)
  have h2 := Int.lt_tmod_of_pos x (b := 5) (by omega)
  omega
theorem kindS_le (x : Int) : kindS x ≤ 4 := by
  have := tmod5 x
  unfold kindS; split <;> omega
/-- A thing's number, as much of it as its width has. -/
def numTh (t : Th) : Nat := if kindS t.1 = 0 then t.2.1 % 256 else if kindS t.1 = 1 then t.2.1 % 65536 else if kindS t.1 = 2 then t.2.1 % 4294967296 else t.2.1
/-- A thing's encoding. -/
def encTh (t : Th) : List UInt8 := if kindS t.1 = 4 then encT (cutB t.2.2 300).data.toList else enc (2 ^ kindS t.1) t.2.1
/-- A thing as a value. -/
def thV (t : Th) : Value := .agg #[.int .i64 t.1, .int .u64 t.2.1, .string t.2.2]

theorem kind_any (x : Int) (m : Nat) (s : ByteArray) (w : World) : Calls Try.prog 71 #[.agg #[.int .i64 x, .int .u64 m, .string s]] w fun e w' => e = .returned (.int .i64 (kindS x)) ∧ Chg w w' [] := by
  have h5 := tmod5 x
  have hk := kindS_le x
  have k1 : ∀ o : Obj, Chg w (w.alloc o) [] := fun o => (Chg.refl w []).alloc _
  have K1 := hid k1
  clear k1
  by_cases h : x.tmod 5 < 0
  · have e : kindS x = 4 := by unfold kindS; rw [if_pos h]
    rw [e]
    clear e hk
    go_enter Try.func71, Try.ntmps71
    go_wp2
    go_ret
    exact ⟨rfl, K1.out _⟩
  · have e : (kindS x : Int) = x.tmod 5 := by unfold kindS; rw [if_neg h]; omega
    rw [e]
    have h' : 0 ≤ x.tmod 5 := by omega
    clear e hk h
    go_enter Try.func71, Try.ntmps71
    go_wp2
    go_ret
    exact ⟨rfl, K1.out _⟩

/-- The three cells of a boxed thing. -/
def BoxT (W : World) (b : Nat) (t : Th) : Prop := W.cell? ⟨b, 0, none⟩ = some (.int .i64 t.1) ∧ W.cell? ⟨b, 1, none⟩ = some (.int .u64 t.2.1) ∧ W.cell? ⟨b, 2, none⟩ = some (.string t.2.2)
theorem boxT_new (w : World) (x : Int) (m : Nat) (s : ByteArray) : BoxT (w.alloc (.cells #[.int .i64 x, .int .u64 m, .string s] 83)) w.heap.size (x, m, s) :=
  ⟨by simp [World.cell?_alloc_at], by simp [World.cell?_alloc_at], by simp [World.cell?_alloc_at]⟩
theorem BoxT.keep {W W' : World} {b : Nat} {t : Th} {S : List Nat} (h : BoxT W b t) (hc : Chg W W' S) (hb : b < W.heap.size) (hn : b ∉ S) : BoxT W' b t :=
  ⟨(hc.cell (p := ⟨b, 0, none⟩) hb hn).trans h.1, (hc.cell (p := ⟨b, 1, none⟩) hb hn).trans h.2.1, (hc.cell (p := ⟨b, 2, none⟩) hb hn).trans h.2.2⟩

set_option maxHeartbeats 1000000 in
theorem numTh_any (x : Int) (m : Nat) (s : ByteArray) (w : World) : Calls Try.prog 72 #[.agg #[.int .i64 x, .int .u64 m, .string s]] w fun e w' => e = .returned (.int .u64 (numTh (x, m, s))) ∧ Chg w w' [] := by
  have hP := fun W => kind_any x m s W
  have hk := kindS_le x
  have hb := boxT_new w x m s
  have k1 : Chg w (w.alloc (.cells #[.int .i64 x, .int .u64 m, .string s] 83)) [] := (Chg.refl w []).alloc _
  have hl : w.heap.size < (w.alloc (.cells #[.int .i64 x, .int .u64 m, .string s] 83)).heap.size := by simp
  have HB := hid hb
  obtain ⟨b0, b1, b2⟩ := hb
  simp only at b0 b1 b2
  have hn : numTh (x, m, s) = if kindS x = 0 then m % 256 else if kindS x = 1 then m % 65536 else if kindS x = 2 then m % 4294967296 else m := rfl
  rw [hn]
  generalize kindS x = k at *
  clear hn
  have hk5 : k = 0 ∨ k = 1 ∨ k = 2 ∨ k = 3 ∨ k = 4 := by omega
  rcases hk5 with rfl | rfl | rfl | rfl | rfl
  all_goals
    simp only [Nat.reduceEqDiff, if_true, if_false] at hP ⊢
    have HP := hid hP
    have HL := hid hl
    have K1 := hid k1
    clear hP hk hl k1
    go_enter Try.func72, Try.ntmps72
    go_wp2_with (go_at_call 71; refine (HP.out _).mono ?_; rintro e w2 ⟨rfl, c2⟩
                 have e1 := (HB.out.keep c2 HL.out (by simp)).2.1
                 have K2 := hid (K1.out.trans c2 (by simp)))
    go_ret
    exact ⟨rfl, K2.out⟩

theorem NewRow.step {w W w' : World} {l : List UInt8} {e : Ending} (h : NewRow W l e w') (hc : Chg w W []) : NewRow w l e w' := by
  obtain ⟨g, c, h1, h2, h3, h4⟩ := h
  exact ⟨g, c, h1, h2, hc.trans h3 (by simp), Nat.le_trans hc.size h4⟩

set_option maxHeartbeats 1000000 in
theorem lay4 (ao : Option Addr) (n c : Nat) (l : List UInt8) (x : Int) (m : Nat) (s : ByteArray) (w : World) (hb : Bs w ao n c l) (hl : l.length ≤ 900000) (hs : s.size ≤ 9223372036854775807) (hk : kindS x = 4) :
    Calls Try.prog 53 #[.slice ao n c, .agg #[.int .i64 x, .int .u64 m, .string s]] w (NewRow w (l ++ encT (cutB s 300).data.toList)) := by
  have hP := fun W => kind_any x m s W
  rw [hk] at hP
  have HP := hid hP
  have HCut := hid (fun W => cut04 s 300 W hs (by omega))
  have hS : (cutB s 300).size ≤ 300 := by rw [cutB_size]; omega
  have HT := hid (fun W (h : Bs W ao n c l) => putText_ok ao n c l (cutB s 300) W h hl (by omega))
  have hbx := boxT_new w x m s
  have k1 : Chg w (w.alloc (.cells #[.int .i64 x, .int .u64 m, .string s] 83)) [] := (Chg.refl w []).alloc _
  have hl1 : w.heap.size < (w.alloc (.cells #[.int .i64 x, .int .u64 m, .string s] 83)).heap.size := by simp
  have HB := hid hbx
  obtain ⟨b0, b1, b2⟩ := hbx
  simp only at b0 b1 b2
  have K1 := hid k1
  have HL := hid hl1
  have HBS := hid hb
  generalize cutB s 300 = S at *
  generalize l ++ encT S.data.toList = lr at *
  clear hP hk hS k1 hl1 hb hl
  go_enter Try.func53, Try.ntmps53
  go_wp2_with (first
    | (go_at_call 71; refine (HP.out _).mono ?_; rintro e w2 ⟨rfl, c2⟩
       have e1 := (HB.out.keep c2 HL.out (by simp)).2.2
       have K2 := hid (K1.out.trans c2 (by simp)))
    | (go_at_call 28; refine (HCut.out _).mono ?_; rintro e w3 ⟨rfl, rfl⟩)
    | (go_at_call 30; refine (HT.out _ (HBS.out.keep K2.out (by simp))).mono ?_; rintro e w4 ⟨g, d, rfl, h1, h2, h3⟩))
  go_ret
  exact ⟨g, d, rfl, h1, K2.out.trans h2 (by simp), Nat.le_trans K2.out.size h3⟩

set_option maxRecDepth 100000 in
set_option maxHeartbeats 1000000 in
theorem layN (ao : Option Addr) (n c : Nat) (l : List UInt8) (x : Int) (m : Nat) (s : ByteArray) (w : World) (hb : Bs w ao n c l) (hl : l.length ≤ 900000) (hm : m < 18446744073709551616) (k : Nat) (hk : kindS x = k) (hk4 : k = 0 ∨ k = 1 ∨ k = 2 ∨ k = 3) :
    Calls Try.prog 53 #[.slice ao n c, .agg #[.int .i64 x, .int .u64 m, .string s]] w (NewRow w (l ++ enc (2 ^ k) m)) := by
  have hP := fun W => kind_any x m s W
  rw [hk] at hP
  have hT : ∀ W, Bs W ao n c l → Calls Try.prog 29 #[.slice ao n c, .int .i64 ((2 ^ k : Nat) : Int), .int .u64 m] W (NewRow W (l ++ enc (2 ^ k) m)) := fun W h =>
    put_yes ao n c l (2 ^ k) m W h (by rcases hk4 with rfl | rfl | rfl | rfl <;> unfold mayW <;> decide) hm (by omega)
  have hbx := boxT_new w x m s
  have k1 : Chg w (w.alloc (.cells #[.int .i64 x, .int .u64 m, .string s] 83)) [] := (Chg.refl w []).alloc _
  have hl1 : w.heap.size < (w.alloc (.cells #[.int .i64 x, .int .u64 m, .string s] 83)).heap.size := by simp
  have HB := hid hbx
  have K1 := hid k1
  have HBS := hid hb
  clear hk hl hm hb k1
  generalize l ++ enc (2 ^ k) m = lr at *
  rcases hk4 with rfl | rfl | rfl | rfl
  all_goals
    obtain ⟨b0, b1, b2⟩ := hbx
    simp only at b0 b1 b2
    simp only [Nat.reducePow] at hT
    have HP := hid hP
    have HT := hid hT
    clear hP hT
    go_enter Try.func53, Try.ntmps53
    go_upto_region 4 with (go_at_call 71; refine (HP.out _).mono ?_; rintro e w2 ⟨rfl, c2⟩
                           obtain ⟨e0, e1, e2⟩ := HB.out.keep c2 hl1 (by simp)
                           have K2 := hid (K1.out.trans c2 (by simp))
                           have hl2 := Nat.lt_of_lt_of_le hl1 c2.size
                           have HB2 := hid ((HB.out.keep c2 hl1 (by simp)).keep (Chg.refl w2 []).drew hl2 (by simp)))
    clear b0 b1 b2
    go_region_held3 (fun W => W.cell? ⟨w.heap.size, 0, none⟩ = some (.int .i64 x) ∧ W.cell? ⟨w.heap.size, 1, none⟩ = some (.int .u64 m) ∧ W.cell? ⟨w.heap.size, 2, none⟩ = some (.string s))
      (first
        | go_keep
        | exact HB2.out.keep (W := w2.drew) c3 hl2 (by simp)
        | exact HB2.out.keep (W := w2.drew) (c3.trans c4 (by simp)) hl2 (by simp))
      (first
        | (go_at_call 71; refine (HP.out _).mono ?_; rintro e w3 ⟨rfl, c3⟩)
        | (go_at_call 29; refine (HT.out _ (HBS.out.keep (K2.out.drew.trans c3 (by simp)) (by simp))).mono ?_; rintro e w4 ⟨g, d, rfl, h1, c4, h3⟩))
    go_wp2
    go_ret
    exact ⟨g, d, rfl, h1, (K2.out.drew.trans c3 (by simp)).trans c4 (by simp), Nat.le_trans (K2.out.drew.trans c3 (by simp)).size h3⟩

/-- lay: one thing behind bytes. -/
theorem lay_any (ao : Option Addr) (n c : Nat) (l : List UInt8) (t : Th) (w : World) (hb : Bs w ao n c l) (hl : l.length ≤ 900000) (ht : tok t) :
    Calls Try.prog 53 #[.slice ao n c, thV t] w (NewRow w (l ++ encTh t)) := by
  obtain ⟨x, m, s⟩ := t
  obtain ⟨_, hm, hs⟩ := ht
  have hk := kindS_le x
  unfold encTh
  simp only at hm hs ⊢
  by_cases h4 : kindS x = 4
  · rw [if_pos h4]
    exact lay4 ao n c l x m s w hb hl hs h4
  · rw [if_neg h4]
    exact layN ao n c l x m s w hb hl hm _ rfl (by omega)
end Go.Proofs.Ytabdpebokpjljaa
