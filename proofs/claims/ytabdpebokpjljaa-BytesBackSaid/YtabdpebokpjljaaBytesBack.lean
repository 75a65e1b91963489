/- BytesBack: for every things and bytes behind the law answers true, and nothing that was there has turned. No condition. -/
import Derived.Test.YtabdpebokpjljaaU2
import Derived.Test.YtabdpebokpjljaaF12
namespace Go.Proofs.Ytabdpebokpjljaa
open Go.RowKit

theorem NewRow.bw {w W W' : World} {l : List UInt8} {v : Value} (h : NewRow W l (.returned v) W') (hc : Chg w W []) : ∃ ao c, v = .slice ao l.length c ∧ Bw w W' ao l.length c l ∧ Chg w W' [] := by
  obtain ⟨g, c, h1, h2, h3, h4⟩ := h
  injection h1 with h1
  exact ⟨_, c, h1, .inr ⟨g, rfl, rfl, h2, Nat.le_trans hc.size h4⟩, hc.trans h3 (by simp)⟩

set_option maxRecDepth 100000 in
set_option maxHeartbeats 4000000 in
theorem bback_walk {w : World} (ao : Option Addr) (n c : Nat) (l : List Th) (s : ByteArray) (h : AIn tc 3 tok w ao n l) (hs : s.size ≤ maxLen) :
    Calls Try.prog 15 #[.slice ao n c, .string s] w (Yes w) := by
  unfold maxLen at hs
  have hmx := h.max
  have HIn := hid h
  have hlen := hid h.len
  have HCut := hid (fun W => cut04 s 500 W hs (by omega))
  have hS : (cutB s 500).size ≤ 500 := by rw [cutB_size]; omega
  have hSl : (cutB s 500).data.toList.length = (cutB s 500).size := by rw [Array.length_toList]; rfl
  have hSt : str (cutB s 500).data.toList = cutB s 500 := by
    apply ByteArray.ext
    apply Array.toList_inj.1
    rw [str_data]
  have HS := hid hS
  have HSl := hid hSl
  have HSt := hid hSt
  have hS' : ((cutB s 500).size : Int) ≤ 500 := by omega
  clear h hS hSl hSt
  generalize cutB s 500 = S at *
  go_enter Try.func15, Try.ntmps15
  go_wp2_with (go_at_call 28; refine (HCut.out _).mono ?_; rintro e w1 ⟨rfl, rfl⟩)
  go_loopw [5, 6] (fun bs is wx => ∃ (k : Nat) (bo : Option Addr) (m d : Nat), bs = .slice bo m d ∧ is = .int .i64 k ∧ k ≤ n ∧ k ≤ 30 ∧ Bw w wx bo m d (laidT (l.take k)) ∧ Chg w wx []) (fun _ is _ => 30 - (intOf is).toNat)
  case atStart => exact ⟨0, none, 0, 0, rfl, rfl, by omega, by omega, .inl ⟨rfl, rfl, rfl, by simp [laidT]⟩, Chg.refl _ _⟩
  case round =>
    obtain ⟨k, bo, m, d, rfl, rfl, hkn, hk30, hB, hC⟩ := hrel
    have hkn' : (k : Int) ≤ (n : Int) := by omega
    have hk30' : (k : Int) ≤ 30 := by omega
    have hlb := laidT_len (l.take k)
    have hlk : (l.take k).length ≤ k := List.length_take_le _ _
    by_cases hlt : k < n ∧ k < 30
    · obtain ⟨h1, h2⟩ := hlt
      have h1' : (k : Int) < (n : Int) := by omega
      have h2' : (k : Int) < 30 := by omega
      obtain ⟨b, o, t, rfl, hbl, ht, htok, hcell⟩ := HIn.out.at h1
      have a0 : _ = _ := hcell _ hC 0 _ rfl
      rw [Nat.add_zero] at a0
      have a1 := hcell _ hC 1 _ rfl
      have a2 := hcell _ hC 2 _ rfl
      have hP := lay_any bo m d _ t _ hB.bs (by omega) htok
      rw [← laidT_succ ht] at hP
      obtain ⟨x, y, z⟩ := t
      have HP : Hid (Calls Try.prog 53 #[.slice bo m d, .agg #[.int .i64 x, .int .u64 y, .string z]] wr (NewRow wr (laidT (l.take (k + 1))))) := hP
      have HC := hid hC
      have HB := hid hB
      clear hP hcell ht htok hC hB
      simp only at a0 a1 a2
      go_wp2_with (go_at_call 53; refine HP.out.mono ?_; rintro e w2 ⟨g, d2, rfl, h3, h4, h5⟩)
      go_roundw
      case rel => exact ⟨k + 1, _, _, d2, rfl, by go_num, by omega, by omega, .inr ⟨g, rfl, rfl, h3, Nat.le_trans HC.out.size h5⟩, HC.out.trans h4 (by simp)⟩
      case measure => simp [intOf]; omega
    · have hkk : l.take k = l.take 30 := by
        by_cases hn : k < n
        · rw [show k = 30 by omega]
        · have := hlen.out
          rw [List.take_of_length_le (by omega), List.take_of_length_le (by omega)]
      rw [hkk] at hB hlb hlk
      have hne : (k : Int) < (n : Int) ∧ ¬ ((k : Int) < 30) ∨ ¬ ((k : Int) < (n : Int)) := by omega
      have hlF : (l.take 30).length ≤ 30 := List.length_take_le _ _
      have HB := hid hB
      have HC := hid hC
      clear hB hC hkk hlt hlk
      rcases hne with ⟨h1', h2'⟩ | h1'
      all_goals
        go_wp2_with (first
          | (refine wp_appBS rfl _ _ rfl w bo m d (laidT (l.take 30)) rfl HB.out HC.out.size S rfl (by have := HS.out; omega) ?_; intro zo d2 w2 S2 hB2 hc2 hS2 hz2
             have k2 : Chg w w2 [] := HC.out.step hc2 (fun k hk => by { obtain ⟨x, h1, rfl⟩ := hS2 k hk; exact (HB.out.block x h1).1 })
             have hbs := hid hB2.bs)
          | (go_at_call 36; refine (newTape_any _ _ _ _ _ hbs.out (by have := HS.out; have := HSl.out; simp only [List.length_append]; omega)).mono ?_; rintro e w3 ⟨g, r, rfl, ht3, hc3, hg3, hr3⟩))
        have h0 : Chg w w3 [] := k2.trans hc3 (by simp)
        have hgw : w.heap.size ≤ g := Nat.le_trans k2.size hg3
        have HT3 := hid ht3
        have H0 := hid h0
        clear ht3 h0 hB2 hc2 hS2 hz2 hbs k2 hc3 hg3 hr3 HB HC hlb
        go_loopw [8] (fun is wx => ∃ k : Nat, is = .int .i64 k ∧ k ≤ n ∧ k ≤ 30 ∧ Tp wx g r (laidT ((l.take 30).drop k) ++ S.data.toList, false) ∧ Chg w wx []) (fun is _ => 30 - (intOf is).toNat)
        case atStart => exact ⟨0, rfl, by omega, by omega, by rw [List.drop_zero]; exact HT3.out, H0.out⟩
        case round =>
          clear HT3 H0
          obtain ⟨j, rfl, hjn, hj30, hT, hC⟩ := hrel
          have hjn' : (j : Int) ≤ (n : Int) := by omega
          have hj30' : (j : Int) ≤ 30 := by omega
          by_cases hlt : j < n ∧ j < 30
          · obtain ⟨g1, g2⟩ := hlt
            have g1' : (j : Int) < (n : Int) := by omega
            have g2' : (j : Int) < 30 := by omega
            obtain ⟨b, o, t, rfl, hbl, ht, htok, hcell⟩ := HIn.out.at g1
            have a0 : _ = _ := hcell _ hC 0 _ rfl
            rw [Nat.add_zero] at a0
            have a1 := hcell _ hC 1 _ rfl
            have a2 := hcell _ hC 2 _ rfl
            have ht2 : (l.take 30)[j]? = some t := by rw [List.getElem?_take, if_pos g2]; exact ht
            rw [laidT_drop ht2, List.append_assoc] at hT
            have hP := backT_any g r _ t _ hT htok
            obtain ⟨q1, q2⟩ := back_whole t htok (laidT ((l.take 30).drop (j + 1)) ++ S.data.toList)
            rw [q2] at hP
            have Q1 := hid q1
            generalize backP t _ = P at hP Q1
            obtain ⟨x, y, z⟩ := t
            have HP : Hid (Calls Try.prog 54 #[.pointer (some ⟨g, 0, none⟩), .agg #[.int .i64 x, .int .u64 y, .string z]] wr (BackTo wr g r P (laidT ((l.take 30).drop (j + 1)) ++ S.data.toList, false))) := hP
            have HC := hid hC
            clear hP hcell ht ht2 htok hC hT q1 q2
            simp only at a0 a1 a2
            go_wp2_with (first
              | (go_at_call 54; refine HP.out.mono ?_; rintro e w4 ⟨v, rfl, hv, t4, c4⟩; obtain rfl : v = true := hv.2 Q1.out; clear hv)
              | (go_at_call 43; refine (err_any _ _ _ _ t4).mono ?_; rintro e w5 ⟨rfl, rfl⟩))
            go_roundw
            case rel => exact ⟨j + 1, by go_num, by omega, by omega, t4, HC.out.step c4 (by simp; exact hgw)⟩
            case measure => simp [intOf]; omega
          · have hd : (l.take 30).drop j = [] := List.drop_of_length_le (by have := hlen.out; rw [List.length_take]; omega)
            rw [hd] at hT
            have hT1 : Tp wr g r (S.data.toList, false) := hT
            have hL := left_any g r _ _ hT1
            simp only [HSl.out] at hL
            have hBy := bytes_any g r (S.data.toList, false) S.size _ hT1 (by simp only [HSl.out]; have := HS.out; omega)
            have e1 : bytesS (S.data.toList, false) S.size = (S.data.toList, ([], false)) := by
              unfold bytesS
              rw [if_pos ⟨rfl, by omega, by simp only; rw [HSl.out]; omega⟩, Int.toNat_natCast, ← HSl.out, List.take_length, List.drop_length]
            rw [e1] at hBy
            have hEn : ∀ W, Tp W g r ([], false) → Calls Try.prog 47 #[.pointer (some ⟨g, 0, none⟩)] W (TpTo W g r (.int .i64 0) ([], false)) := fun W hW => end_any g r ([], false) W hW
            have HEn := hid hEn
            have HL := hid hL
            have HBy := hid hBy
            have HC := hid hC
            have hne : (j : Int) < (n : Int) ∧ ¬ ((j : Int) < 30) ∨ ¬ ((j : Int) < (n : Int)) := by omega
            clear hEn hL hBy hC hT hT1 hd e1 hlt
            rcases hne with ⟨g1', g2'⟩ | g1'
            all_goals
              go_wp2_with (first
                | (go_at_call 41; refine HL.out.mono ?_; rintro e w5 ⟨rfl, rfl⟩)
                | (go_at_call 52; refine HBy.out.mono ?_; rintro e w6 ⟨x6, c6, rfl, o6, t6, k6, z6⟩; have hcv : (convert 27 9 (.slice (some ⟨x6, 0, none⟩) S.size c6)).run Try.prog w6 = .ok (.string S) w6 := by { have := run_str o6.bs; rw [HSt.out, HSl.out] at this; exact this })
                | (go_at_call 47; refine (HEn.out _ t6).mono ?_; rintro e w7 ⟨rfl, t7, k7⟩)
                | (go_at_call 33; refine (works04 _).mono ?_; rintro e w8 ⟨rfl, hbel⟩))
              go_ret
              exact ⟨rfl, ((HC.out.step k6 (by simp; exact hgw)).step k7 (by simp; exact hgw)).then_below hbel⟩
end Go.Proofs.Ytabdpebokpjljaa
