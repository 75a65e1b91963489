/- BytesTakes: for every bytes and asks the law answers true, and nothing that was there has turned. No condition. -/
import Derived.Test.YtabdpebokpjljaaT1
import Derived.Test.YtabdpebokpjljaaG2
namespace Go.Proofs.Ytabdpebokpjljaa
open Go.RowKit

/-- Block b starts with n bytes that may be written. -/
def OwnC (w : World) (b n : Nat) : Prop := ∀ j, j < n → (∃ c : UInt8, w.cell? ⟨b, j, none⟩ = some (bv c)) ∧ w.frozen? ⟨b, j, none⟩ = false
theorem OwnC.set {w : World} {b n : Nat} (h : OwnC w b n) {i : Nat} (hi : i < n) (v : Value) (c : UInt8) (hv : v = bv c) : OwnC (w.setCell ⟨b, i, none⟩ v) b n := by
  subst hv
  intro j hj
  obtain ⟨⟨c1, h1⟩, h2⟩ := h j hj
  refine ⟨?_, by simp; exact h2⟩
  by_cases e : j = i
  · subst e; exact ⟨c, cell_set_same h1⟩
  · exact ⟨c1, by rw [World.cell?_setCell_other w ⟨b, i, none⟩ ⟨b, j, none⟩ _ (fun h0 => e (by injection h0 with _ h0 _; exact h0.symm))]; exact h1⟩
theorem OwnC.keep {w w' : World} {b n : Nat} {S : List Nat} (h : OwnC w b n) (hc : Chg w w' S) (hb : b < w.heap.size) (hn : b ∉ S) : OwnC w' b n := fun j hj =>
  ⟨by rw [hc.cell hb hn]; exact (h j hj).1, by rw [hc.frozen hb hn]; exact (h j hj).2⟩
theorem sub_byteC (B : Nat) (h : B ≤ 255) : Value.int .u8 (255 - (B : Int)) = bv (UInt8.ofNat (255 - B)) := by
  rw [bv, UInt8.toNat_ofNat']; congr 1; omega

set_option maxRecDepth 100000 in
set_option maxHeartbeats 4000000 in
theorem takes_walk {w : World} (s : ByteArray) (ao : Option Addr) (n c : Nat) (l : List Ak) (hs : s.size ≤ maxLen) (h : AIn ac 3 aok w ao n l) :
    Calls Try.prog 14 #[.string s, .slice ao n c] w (Yes w) := by
  unfold maxLen at hs
  have hmx := h.max
  have HIn := hid h
  have HCut := hid (fun W => cut04 s 2000 W hs (by omega))
  have hS : (cutB s 2000).size ≤ 2000 := by rw [cutB_size]; omega
  have hSl : (cutB s 2000).data.toList.length = (cutB s 2000).size := by rw [Array.length_toList]; rfl
  have HS := hid hS
  have HSl := hid hSl
  have hS' : ((cutB s 2000).size : Int) ≤ 2000 := by omega
  clear h hS hSl
  generalize cutB s 2000 = S at *
  go_enter Try.func14, Try.ntmps14
  go_wp2_with (first
    | (go_at_call 28; refine (HCut.out _).mono ?_; rintro e w1 ⟨rfl, rfl⟩)
    | (refine wp_bytes rfl _ rfl S rfl (by have := HS.out; unfold maxLen; omega) ?_; intro c3 w3 hb3 hf3 hc3 hz3)
    | (go_at_call 36; refine (newTape_any _ _ _ _ _ hb3 (by have := HS.out; have := HSl.out; omega)).mono ?_; rintro e w4 ⟨g, r, rfl, ht4, hc4, hg4, hr4⟩))
  have hO : OwnC w3 w.heap.size S.size := fun j hj => ⟨⟨_, by have := hb3.cell (j := j) (by have := hb3.1; omega); simpa using this⟩, hf3 j (by have := hb3.2.1; omega)⟩
  have hO4 := hO.keep hc4 hz3 (by simp)
  have k4 : Chg w w4 [] := hc3.trans hc4 (by simp)
  have hob : w.heap.size < w4.heap.size := Nat.lt_of_lt_of_le hz3 hc4.size
  have hgo : w.heap.size ≠ g := by omega
  have hro : w.heap.size ≠ r := by omega
  have hgw : w.heap.size ≤ g := by omega
  have K4 := hid k4
  have HT := hid ht4
  clear hO hb3 hf3 hc3 hz3 hc4 k4 ht4
  go_loopw [7] (fun is wx => ∃ j : Nat, is = .int .i64 j ∧ j ≤ S.size ∧ OwnC wx w.heap.size S.size ∧ Chg w4 wx [w.heap.size]) (fun is _ => S.size - (intOf is).toNat)
  case atStart => exact ⟨0, rfl, by omega, hO4, Chg.refl _ _⟩
  case round =>
    clear hO4
    obtain ⟨j, rfl, hj, hO, hC⟩ := hrel
    have hj' : (j : Int) ≤ (S.size : Int) := by omega
    by_cases hjl : j < S.size
    · have hjl' : (j : Int) < (S.size : Int) := by omega
      obtain ⟨⟨B, hcell⟩, hfr⟩ := hO j hjl
      unfold bv at hcell
      have hB := B.toNat_lt
      generalize B.toNat = B at *
      have hB1 : (B : Int) ≤ 255 := by omega
      have hB2 := hO.set hjl _ _ (sub_byteC B (by omega))
      have HB := hid hB2
      have HC := hid hC
      clear hO hB hC hB2
      go_wp2
      go_roundw
      case rel => exact ⟨j + 1, by go_num, by omega, HB.out, HC.out.setCell (by simp) _⟩
      case measure => simp [intOf]; omega
    · have hjl' : ¬ ((j : Int) < (S.size : Int)) := by omega
      have hT7 := HT.out.keep hC (by simp; exact fun h0 => hgo h0.symm) (by simp; exact fun h0 => hro h0.symm)
      have k7 : Chg w wr [] := K4.out.trans hC (by simp)
      have HT7 := hid hT7
      have K7 := hid k7
      clear hO hC HT K4 hT7 k7
      go_wp2_with (refine wp_bytes rfl _ rfl S rfl (by have := HS.out; unfold maxLen; omega) ?_; intro c8 w8 hb8 hf8 hc8 hz8)
      have hT8 := HT7.out.keep hc8 (by simp) (by simp)
      have hlt := HT7.out.lt
      have hq : Tq (w8.alloc (.cells #[.slice (some ⟨wr.heap.size, 0, none⟩) S.size c8, .bool false] 63)) w8.heap.size wr.heap.size (S.data.toList, false) := by
        rw [← HSl.out] at hb8 ⊢
        exact ⟨0, c8, heap_alloc_new w8 _, by omega, hb8.alloc _⟩
      have h0 : TT (w8.alloc (.cells #[.slice (some ⟨wr.heap.size, 0, none⟩) S.size c8, .bool false] 63)) g r w8.heap.size wr.heap.size (S.data.toList, false) :=
        ⟨hT8.keep ((Chg.refl _ []).alloc _) (by simp) (by simp), hq, by omega, by omega, by omega⟩
      have k8 : Chg w (w8.alloc (.cells #[.slice (some ⟨wr.heap.size, 0, none⟩) S.size c8, .bool false] 63)) [] := (K7.out.trans hc8 (by simp)).alloc _
      have hqw : w.heap.size ≤ w8.heap.size := Nat.le_trans K7.out.size hc8.size
      have hl0 : S.data.toList.length ≤ 2000 := by rw [HSl.out]; exact HS.out
      clear hT8 hq hb8 hf8 hc8 hz8 hlt HT7 K7
      generalize w8.heap.size = q at *
      generalize wr.heap.size = rq at *
      go_loopw [9] (fun is wx => ∃ (k : Nat) (st : St), is = .int .i64 k ∧ k ≤ n ∧ k ≤ 60 ∧ TT wx g r q rq st ∧ Chg w wx [] ∧ st.1.length ≤ 2000) (fun is _ => 60 - (intOf is).toNat)
      case atStart => exact ⟨0, (S.data.toList, false), rfl, by omega, by omega, h0, k8, hl0⟩
      case round =>
        clear h0 k8 hl0
        obtain ⟨k, st, rfl, hkn, hk60, hT, hC, hL⟩ := hrel
        have hkn' : (k : Int) ≤ (n : Int) := by omega
        have hk60' : (k : Int) ≤ 60 := by omega
        by_cases h1 : k < n
        · have h1' : (k : Int) < (n : Int) := by omega
          by_cases h2 : k < 60
          · have h2' : (k : Int) < 60 := by omega
            obtain ⟨b, o, ⟨x, y, m⟩, rfl, hbl, _, ⟨hx, hy, hm⟩, hcell⟩ := HIn.out.at h1
            have a0 : _ = _ := hcell _ hC 0 _ rfl
            rw [Nat.add_zero] at a0
            have a1 := hcell _ hC 1 _ rfl
            have a2 := hcell _ hC 2 _ rfl
            simp only at hm hy
            have hP := step_any g r q rq st x y m _ hT (by omega) hm hy.2
            have HP := hid hP
            have HC := hid hC
            have HT := hid hT
            clear hP hC hT hcell hm hx hy
            simp only at a0 a1 a2
            go_wp2_with (first
              | (go_at_call 57; refine HP.out.mono ?_; rintro e w9 ⟨rfl, st2, t9, c9, l9⟩)
              | (go_at_call 41; refine (left_any _ _ _ _ t9.tp).mono ?_; rintro e w10 ⟨rfl, rfl⟩)
              | (go_at_call 42; refine (rleft_any _ _ _ _ t9.tq).mono ?_; rintro e w10 ⟨rfl, rfl⟩)
              | (go_at_call 43; refine (err_any _ _ _ _ t9.tp).mono ?_; rintro e w10 ⟨rfl, rfl⟩)
              | (go_at_call 44; refine (rerr04_any _ _ _ _ t9.tq).mono ?_; rintro e w10 ⟨rfl, rfl⟩))
            go_roundw
            case rel =>
              exact ⟨k + 1, st2, by go_num, by omega, by omega, t9, HC.out.step c9 (by simp; exact ⟨hgw, hqw⟩), by omega⟩
            case measure => simp [intOf]; omega
          · have h2' : ¬ ((k : Int) < 60) := by omega
            have HC := hid hC
            clear hC hT
            go_wp2_with (go_at_call 33; refine (works04 _).mono ?_; rintro e w10 ⟨rfl, hbel⟩)
            go_ret
            exact ⟨rfl, HC.out.then_below hbel⟩
        · have h1' : ¬ ((k : Int) < (n : Int)) := by omega
          have HC := hid hC
          clear hC hT
          go_wp2_with (go_at_call 33; refine (works04 _).mono ?_; rintro e w10 ⟨rfl, hbel⟩)
          go_ret
          exact ⟨rfl, HC.out.then_below hbel⟩
end Go.Proofs.Ytabdpebokpjljaa
