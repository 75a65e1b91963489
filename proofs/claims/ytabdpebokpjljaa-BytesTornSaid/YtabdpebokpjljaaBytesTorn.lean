/- BytesTorn: for every bytes and asks the law answers true, and nothing that was there has turned. No condition. -/
import Derived.Test.YtabdpebokpjljaaW6
import Derived.Test.YtabdpebokpjljaaG2
namespace Go.Proofs.Ytabdpebokpjljaa
open Go.RowKit

set_option maxHeartbeats 1000000 in
theorem row59_torn (g r : Nat) (l : List UInt8) (k : Int) (fv : Value) (w : World) (h : Tp w g r (l, true)) (hk : k ≤ 9223372036854775807) :
    Calls Try.prog 59 #[.pointer (some ⟨g, 0, none⟩), .int .i64 k, fv] w (TpTo w g r (.slice none 0 0) (l, true)) := by
  by_cases hk0 : k < 0
  · have HT := hid (tear_any g r (l, true) w h)
    clear h
    go_enter Try.func59, Try.ntmps59
    go_wp2_with (go_at_call 51; refine HT.out.mono ?_; rintro e w2 ⟨rfl, h1, h2⟩)
    go_ret
    exact ⟨rfl, h1, h2⟩
  · obtain ⟨m, rfl⟩ := Int.eq_ofNat_of_zero_le (Int.not_lt.1 hk0)
    have hB : Calls Try.prog 46 #[.pointer (some ⟨g, 0, none⟩), .int .i64 2, .int .u64 m] w (TpTo w g r (.int .i64 0) (l, true)) := by
      have := below_any g r (l, true) 2 m w h (by omega)
      rwa [show belowS (l, true) 2 m = (0, (l, true)) from by simp [belowS]] at this
    have hW : ∀ W, Tp W g r (l, true) → Calls Try.prog 65 #[.pointer (some ⟨g, 0, none⟩)] W fun e w' => e = .returned (.bool false) ∧ W = w' := fun W hT => by
      obtain ⟨o, c, hh⟩ := hT
      exact whole_any g true true W hh.c1 hh.c2
    have HB := hid hB
    have HW := hid hW
    clear hB hW h
    go_enter Try.func59, Try.ntmps59
    go_wp2_with (first
      | (go_at_call 46; refine HB.out.mono ?_; rintro e w2 ⟨rfl, h1, h2⟩)
      | (go_at_call 65; refine (HW.out _ h1).mono ?_; rintro e w3 ⟨rfl, rfl⟩))
    go_loop [8] (fun v => v = .slice none 0 0) (fun _ => 0)
    case atStart => rfl
    case round =>
      obtain rfl := hrel
      go_wp2_with (go_at_call 65; refine (HW.out _ h1).mono ?_; rintro e w3 ⟨rfl, rfl⟩)
      go_ret
      exact ⟨rfl, h1, h2⟩

set_option maxRecDepth 100000 in
set_option maxHeartbeats 4000000 in
theorem torn_walk {w : World} (s : ByteArray) (ao : Option Addr) (n c : Nat) (l : List Ak) (hs : s.size ≤ maxLen) (h : AIn ac 3 aok w ao n l) :
    Calls Try.prog 19 #[.string s, .slice ao n c] w (Yes w) := by
  unfold maxLen at hs
  have hmx := h.max
  have HIn := hid h
  have HCut := hid (fun W => cut04 s 200 W hs (by omega))
  have hS : (cutB s 200).size ≤ 200 := by rw [cutB_size]; omega
  have hSl : (cutB s 200).data.toList.length = (cutB s 200).size := by rw [Array.length_toList]; rfl
  have HS := hid hS
  have HSl := hid hSl
  clear h hS hSl
  generalize cutB s 200 = S at *
  generalize hL : S.data.toList = L at *
  have HLL := hid hL
  clear hL
  go_enter Try.func19, Try.ntmps19
  go_wp2_with (first
    | (go_at_call 28; refine (HCut.out _).mono ?_; rintro e w1 ⟨rfl, rfl⟩)
    | (refine wp_bytes rfl _ rfl S rfl (by have := HS.out; unfold maxLen; omega) ?_; intro c3 w3 hb3 hf3 hc3 hz3; rw [HLL.out] at hb3)
    | (go_at_call 36; refine (newTape_any _ _ _ _ _ hb3 (by have := HS.out; have := HSl.out; omega)).mono ?_; rintro e w4 ⟨g, r, rfl, ht4, hc4, hg4, hr4⟩)
    | (go_at_call 51; refine (tear_any _ _ _ _ ht4).mono ?_; rintro e w5 ⟨rfl, ht5, hc5⟩))
  have hgw : w.heap.size ≤ g := Nat.le_trans hc3.size hg4
  have h0 : Chg w w5 [] := (hc3.trans hc4 (by simp)).step hc5 (by simp; exact hgw)
  clear hb3 hf3 hc3 hz3 ht4 hc4 hg4 hr4 hc5
  go_loopw [6] (fun is wx => ∃ k : Nat, is = .int .i64 k ∧ k ≤ n ∧ k ≤ 30 ∧ Tp wx g r (L, true) ∧ Chg w wx []) (fun is _ => 30 - (intOf is).toNat)
  case atStart => exact ⟨0, rfl, by omega, by omega, ht5, h0⟩
  case round =>
    clear ht5 h0
    obtain ⟨k, rfl, hkn, hk30, hT, hC⟩ := hrel
    have hkn' : (k : Int) ≤ (n : Int) := by omega
    have hk30' : (k : Int) ≤ 30 := by omega
    have hEr : ∀ W, Tp W g r (L, true) → Calls Try.prog 43 #[.pointer (some ⟨g, 0, none⟩)] W fun e w' => e = .returned (.int .i64 4) ∧ W = w' := fun W hW => err_any g r (L, true) W hW
    have HEr := hid hEr
    clear hEr
    by_cases hlt : k < n ∧ k < 30
    · obtain ⟨h1, h2⟩ := hlt
      have h1' : (k : Int) < (n : Int) := by omega
      have h2' : (k : Int) < 30 := by omega
      obtain ⟨b, o, ⟨x, y, m⟩, rfl, hbl, _, ⟨hx, hy, hm⟩, hcell⟩ := HIn.out.at h1
      have HCC := hid hcell
      simp only at hm hy
      have hLen : L.length ≤ 1000000 := by have := HSl.out; have := HS.out; omega
      have p1 : ∀ W, Tp W g r (L, true) → Calls Try.prog 39 #[.pointer (some ⟨g, 0, none⟩), .int .i64 4] W (TpTo W g r (.int .u64 0) (L, true)) := fun W hW => by
        have := num_any g r (L, true) 4 W hW
        rwa [show numS (L, true) 4 = (0, (L, true)) from by simp [numS]] at this
      have p2 : ∀ W, Tp W g r (L, true) → Calls Try.prog 46 #[.pointer (some ⟨g, 0, none⟩), .int .i64 2, .int .u64 m] W (TpTo W g r (.int .i64 0) (L, true)) := fun W hW => by
        have := below_any g r (L, true) 2 m W hW hm
        rwa [show belowS (L, true) 2 m = (0, (L, true)) from by simp [belowS]] at this
      have p3 : ∀ W, Tp W g r (L, true) → Calls Try.prog 45 #[.pointer (some ⟨g, 0, none⟩), .int .i64 y] W (TpTo W g r (.string ⟨#[]⟩) (L, true)) := fun W hW => by
        have := text_any g r (L, true) y W hW hy.2
        rwa [show textS (L, true) y = ([], (L, true)) from by simp [textS]] at this
      have p4 : ∀ W, Tp W g r (L, true) → Calls Try.prog 52 #[.pointer (some ⟨g, 0, none⟩), .int .i64 y] W (BytesTo W g r [] (L, true)) := fun W hW => by
        have := bytes_any g r (L, true) y W hW hLen
        rwa [show bytesS (L, true) y = ([], (L, true)) from by simp [bytesS]] at this
      have p5 : ∀ W, Tp W g r (L, true) → Calls Try.prog 47 #[.pointer (some ⟨g, 0, none⟩)] W (TpTo W g r (.int .i64 4) (L, true)) := fun W hW => by
        have := end_any g r (L, true) W hW
        rwa [show endS (L, true) = (4, (L, true)) from by simp [endS]] at this
      have p6 : ∀ W fv, Tp W g r (L, true) → Calls Try.prog 59 #[.pointer (some ⟨g, 0, none⟩), .int .i64 y, fv] W (TpTo W g r (.slice none 0 0) (L, true)) := fun W fv hW => row59_torn g r L y fv W hW hy.2
      have p7 : ∀ W, Tp W g r (L, true) → Calls Try.prog 41 #[.pointer (some ⟨g, 0, none⟩)] W fun e w' => e = .returned (.int .i64 S.size) ∧ W = w' := fun W hW => by
        have := left_any g r (L, true) W hW
        simp only [HSl.out] at this
        exact this
      have P1 := hid p1
      have P2 := hid p2
      have P3 := hid p3
      have P4 := hid p4
      have P5 := hid p5
      have P6 := hid p6
      have P7 := hid p7
      have a2 := hcell _ hC 2 _ rfl
      simp only at a2
      have HC := hid hC
      have HT := hid hT
      have cel : ∀ W, Chg wr W [g] → W.cell? ⟨b, o + k * 3 + 1, none⟩ = some (.int .i64 y) ∧ W.cell? ⟨b, o + k * 3 + 2, none⟩ = some (.int .u64 m) := fun W hW => by
        have hk := HC.out.step hW (by simp; exact hgw)
        exact ⟨HCC.out _ hk 1 _ rfl, HCC.out _ hk 2 _ rfl⟩
      have CEL := hid cel
      clear p1 p2 p3 p4 p5 p6 p7 hm hx hy hcell hC hT cel hLen a2
      go_wp2_with (first
        | (go_at_call 39; refine (P1.out _ HT.out).mono ?_; rintro e w6 ⟨rfl, t6, c6⟩; obtain ⟨d1, d2⟩ := CEL.out _ c6)
        | (go_at_call 46; refine (P2.out _ t6).mono ?_; rintro e w7 ⟨rfl, t7, c7⟩; have k7 := c6.trans (S := [g]) c7 (by simp); obtain ⟨f1, f2⟩ := CEL.out _ k7)
        | (go_at_call 45; refine (P3.out _ t7).mono ?_; rintro e w8 ⟨rfl, t8, c8⟩; have k8 := k7.trans (S := [g]) c8 (by simp); obtain ⟨i1, i2⟩ := CEL.out _ k8)
        | (go_at_call 52; refine (P4.out _ t8).mono ?_; rintro e w9 ⟨x9, d9, rfl, o9, t9, c9, z9⟩; have k9 := k8.trans (S := [g]) c9 (by simp))
        | (go_at_call 47; refine (P5.out _ t9).mono ?_; rintro e w10 ⟨rfl, t10, c10⟩; have k10 := k9.trans (S := [g]) c10 (by simp); obtain ⟨j1, j2⟩ := CEL.out _ k10)
        | (go_at_call 59; refine (P6.out _ _ t10).mono ?_; rintro e w11 ⟨rfl, t11, c11⟩; have k11 := k10.trans (S := [g]) c11 (by simp))
        | (go_at_call 41; refine (P7.out _ t11).mono ?_; rintro e w12 ⟨rfl, rfl⟩))
      go_roundw
      case rel => exact ⟨k + 1, by go_num, by omega, by omega, t11, HC.out.step k11 (by simp; exact hgw)⟩
      case measure => simp [intOf]; omega
    · have hne : (k : Int) < (n : Int) ∧ ¬ ((k : Int) < 30) ∨ ¬ ((k : Int) < (n : Int)) := by omega
      have HC := hid hC
      have HT := hid hT
      clear hC hT hlt
      rcases hne with ⟨g1', g2'⟩ | g1'
      all_goals
        go_wp2_with (first
          | (go_at_call 43; refine (HEr.out _ HT.out).mono ?_; rintro e w5 ⟨rfl, rfl⟩)
          | (go_at_call 33; refine (works04 _).mono ?_; rintro e w8 ⟨rfl, hbel⟩))
        go_ret
        exact ⟨rfl, HC.out.then_below hbel⟩
end Go.Proofs.Ytabdpebokpjljaa
