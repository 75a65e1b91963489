/- BytesCut: for every things and cut the law answers true, and nothing that was there has turned. No condition. -/
import Derived.Test.YtabdpebokpjljaaU2
import Derived.Test.YtabdpebokpjljaaF9
import Derived.Deep.CutRange
namespace Go.Proofs.Ytabdpebokpjljaa
open Go.RowKit

theorem errS_cases (s : St) : (s.2 = true → errS s = 4) ∧ (s.2 = false → errS s = 0) := by
  unfold errS; constructor <;> intro h <;> simp [h]

set_option maxRecDepth 100000 in
set_option maxHeartbeats 4000000 in
theorem bcut_walk {w : World} (ao : Option Addr) (n c : Nat) (l : List Th) (x : Int) (h : AIn tc 3 tok w ao n l) (hx : (Lit.int .i64 x).wf = true) :
    Calls Try.prog 10 #[.slice ao n c, .int .i64 x] w (Yes w) := by
  have hx2 := hid (wf_i64 hx)
  have hmx := h.max
  have HIn := hid h
  have hlen := hid h.len
  clear h hx
  go_enter Try.func10, Try.ntmps10
  go_upto_region 2 with fail
  go_cut [6] (fun v wx => wx = w ∧ ∃ N : Nat, v = .int .i64 N ∧ N ≤ n ∧ N ≤ 20)
  case first =>
    by_cases h20 : 20 < n
    · have h20' : (20 : Int) < (n : Int) := by omega
      go_wp2_with fail
      go_meet
      exact ⟨rfl, 20, rfl, by omega, by omega⟩
    · have h20' : (n : Int) ≤ 20 := by omega
      go_wp2_with fail
      go_meet
      exact ⟨rfl, n, rfl, by omega, by omega⟩
  case rest =>
    obtain ⟨rfl, N, rfl, hNn, hN20⟩ := hcut
    have hN20' : (N : Int) ≤ 20 := by omega
    go_wp2_with fail
    go_loopw [5, 7] (fun bs is wx => ∃ (k : Nat) (bo : Option Addr) (m d : Nat), bs = .slice bo m d ∧ is = .int .i64 k ∧ k ≤ N ∧ Bw wc wx bo m d (laidT (l.take k)) ∧ Chg wc wx []) (fun _ is _ => N - (intOf is).toNat)
    case atStart => exact ⟨0, none, 0, 0, rfl, rfl, by omega, .inl ⟨rfl, rfl, rfl, by simp [laidT]⟩, Chg.refl _ _⟩
    case round =>
      obtain ⟨k, bo, m, d, rfl, rfl, hkN, hB, hC⟩ := hrel
      have hkN' : (k : Int) ≤ (N : Int) := by omega
      have hlb := laidT_len (l.take k)
      have hlk : (l.take k).length ≤ k := List.length_take_le _ _
      by_cases hlt : k < N
      · have hlt' : (k : Int) < (N : Int) := by omega
        obtain ⟨b, o, t, rfl, hbl, ht, htok, hcell⟩ := HIn.out.at (show k < n by omega)
        have a0 : _ = _ := hcell _ hC 0 _ rfl
        rw [Nat.add_zero] at a0
        have a1 := hcell _ hC 1 _ rfl
        have a2 := hcell _ hC 2 _ rfl
        have hkn' : (k : Int) < (n : Int) := by omega
        have hP := lay_any bo m d _ t _ hB.bs (by omega) htok
        rw [← laidT_succ ht] at hP
        obtain ⟨x, y, z⟩ := t
        have HP : Hid (Calls Try.prog 53 #[.slice bo m d, .agg #[.int .i64 x, .int .u64 y, .string z]] wr (NewRow wr (laidT (l.take (k + 1))))) := hP
        have HC := hid hC
        clear hP hcell ht htok hC hB
        simp only at a0 a1 a2
        go_wp2_with (go_at_call 53; refine HP.out.mono ?_; rintro e w2 ⟨g, d2, rfl, h3, h4, h5⟩)
        go_roundw
        case rel => exact ⟨k + 1, _, _, d2, rfl, by go_num, by omega, .inr ⟨g, rfl, rfl, h3, Nat.le_trans HC.out.size h5⟩, HC.out.trans h4 (by simp)⟩
        case measure => simp [intOf]; omega
      · obtain rfl : k = N := by omega
        have hkk : ¬ ((k : Int) < (k : Int)) := by omega
        have hm := hB.bs.1
        by_cases h0 : m = 0
        · subst h0
          have HC := hid hC
          clear hm hB hC
          go_wp2_with (go_at_call 33; refine (works04 _).mono ?_; rintro e w8 ⟨rfl, hbel⟩)
          go_ret
          exact ⟨rfl, HC.out.then_below hbel⟩
        · obtain ⟨a, ha, hax⟩ : ∃ a : Nat, a < m ∧ ((x < 0 ∧ m = a + 1) ∨ (0 ≤ x ∧ (m : Int) ≤ x ∧ m = a + 1) ∨ x = a) := by
            by_cases hx0 : x < 0
            · exact ⟨m - 1, by omega, .inl ⟨hx0, by omega⟩⟩
            · by_cases hx1 : (m : Int) ≤ x
              · exact ⟨m - 1, by omega, .inr (.inl ⟨by omega, hx1, by omega⟩)⟩
              · exact ⟨x.toNat, by omega, .inr (.inr (by omega))⟩
          have hbs := hid (hB.bs.upto a (by omega))
          have hmb : m ≤ 6040 := by omega
          have hmd := hB.bs.2.1
          have hdx := hB.bs.2.2.1
          unfold maxLen at hdx
          have hpq : Hid (∃ q : List UInt8, q ≠ [] ∧ (laidT (l.take k)).take a ++ q = laidT (l.take k)) := by
            refine ⟨(laidT (l.take k)).drop a, ?_, List.take_append_drop _ _⟩
            intro h1
            have := congrArg List.length h1
            rw [List.length_drop] at this
            simp only [List.length_nil] at this
            omega
          have hTl : ((laidT (l.take k)).take a).length ≤ 6040 := by rw [List.length_take]; omega
          have HC := hid hC
          have hk0 : k ≤ n := hNn
          clear hm hB hC h0 hlb hlk
          generalize (laidT (l.take k)).take a = T at *
          rcases hax with ⟨hx0, rfl⟩ | ⟨hx0, hx1, rfl⟩ | rfl
          all_goals
            go_wp2_with (go_at_call 36; refine (newTape_any _ _ _ _ _ hbs.out (by omega)).mono ?_; rintro e w3 ⟨g, r, rfl, ht3, hc3, hg3, hr3⟩)
            have hc0 : Chg wc w3 [] := HC.out.trans hc3 (by simp)
            have hgw : wc.heap.size ≤ g := Nat.le_trans HC.out.size hg3
            have H0 := hid hc0
            have HT3 := hid ht3
            clear hc0 hc3 hg3 hr3 ht3 hbs
            go_loopw [9] (fun is wx => ∃ (j : Nat) (p : List UInt8), is = .int .i64 j ∧ j ≤ k ∧ Tp wx g r (p, false) ∧ Hid (∃ q : List UInt8, q ≠ [] ∧ p ++ q = laidT ((l.take k).drop j)) ∧ Chg wc wx []) (fun is _ => k - (intOf is).toNat)
            case atStart => exact ⟨0, T, rfl, by omega, HT3.out, hpq, H0.out⟩
            case round =>
              clear HT3 H0 hpq
              obtain ⟨j, p, rfl, hjk, hT, HQ, hC⟩ := hrel
              have hjk' : (j : Int) ≤ (k : Int) := by omega
              by_cases hlt2 : j < k
              · have hlt2' : (j : Int) < (k : Int) := by omega
                obtain ⟨b, o, t, rfl, hbl, ht, htok, hcell⟩ := HIn.out.at (show j < n by omega)
                have a0 : _ = _ := hcell _ hC 0 _ rfl
                rw [Nat.add_zero] at a0
                have a1 := hcell _ hC 1 _ rfl
                have a2 := hcell _ hC 2 _ rfl
                have hjn' : (j : Int) < (n : Int) := by omega
                have ht2 : (l.take k)[j]? = some t := by rw [List.getElem?_take, if_pos hlt2]; exact ht
                have hP := backT_any g r _ t _ hT htok
                have hQ := HQ.out
                rw [laidT_drop ht2] at hQ
                obtain ⟨q, hq0, hq⟩ := hQ
                by_cases hin : (encTh t).length ≤ p.length
                · have hp1 : p = encTh t ++ p.drop (encTh t).length := by
                    have h1 := congrArg (List.take (encTh t).length) hq
                    rw [List.take_append_of_le_length hin, List.take_left' rfl] at h1
                    exact (List.take_append_drop (encTh t).length p).symm.trans (by rw [h1])
                  have hq2 : p.drop (encTh t).length ++ q = laidT ((l.take k).drop (j + 1)) := by
                    have h1 := congrArg (List.drop (encTh t).length) hq
                    rwa [List.drop_append_of_le_length hin, List.drop_left' rfl] at h1
                  generalize p.drop (encTh t).length = p2 at *
                  subst hp1
                  obtain ⟨q1, q2⟩ := back_whole t htok p2
                  rw [q2] at hP
                  have Q1 := hid q1
                  generalize backP t _ = P at hP Q1
                  have HQ2 : Hid (∃ q : List UInt8, q ≠ [] ∧ p2 ++ q = laidT ((l.take k).drop (j + 1))) := ⟨q, hq0, hq2⟩
                  obtain ⟨x1, y, z⟩ := t
                  have HP : Hid (Calls Try.prog 54 #[.pointer (some ⟨g, 0, none⟩), .agg #[.int .i64 x1, .int .u64 y, .string z]] wr (BackTo wr g r P (p2, false))) := hP
                  have hEr : ∀ W, Tp W g r (p2, false) → Calls Try.prog 43 #[.pointer (some ⟨g, 0, none⟩)] W fun e w' => e = .returned (.int .i64 0) ∧ W = w' := fun W hW => err_any g r (p2, false) W hW
                  have HEr := hid hEr
                  have HC := hid hC
                  clear hP hcell ht ht2 htok hC hT q1 q2 hq hq2 hq0 hin HQ hEr
                  simp only at a0 a1 a2
                  go_wp2_with (first
                    | (go_at_call 54; refine HP.out.mono ?_; rintro e w4 ⟨v, rfl, hv, t4, c4⟩; obtain rfl : v = true := hv.2 Q1.out; clear hv)
                    | (go_at_call 43; refine (HEr.out _ t4).mono ?_; rintro e w5 ⟨rfl, rfl⟩))
                  go_roundw
                  case rel => exact ⟨j + 1, p2, by go_num, by omega, t4, HQ2, HC.out.step c4 (by simp; exact hgw)⟩
                  case measure => simp [intOf]; omega
                · have hto := back_torn t p q _ hq (by omega)
                  generalize backS t (p, false) = s' at hP hto
                  obtain ⟨l', t'⟩ := s'
                  simp only at hto
                  subst hto
                  generalize backP t _ = P at hP
                  obtain ⟨x1, y, z⟩ := t
                  have HP : Hid (Calls Try.prog 54 #[.pointer (some ⟨g, 0, none⟩), .agg #[.int .i64 x1, .int .u64 y, .string z]] wr (BackTo wr g r P (l', true))) := hP
                  have hEr : ∀ W, Tp W g r (l', true) → Calls Try.prog 43 #[.pointer (some ⟨g, 0, none⟩)] W fun e w' => e = .returned (.int .i64 4) ∧ W = w' := fun W hW => err_any g r (l', true) W hW
                  have HEr := hid hEr
                  have HC := hid hC
                  clear hP hcell ht ht2 htok hC hT hq hq0 hin HQ hEr
                  simp only at a0 a1 a2
                  go_wp2_with (first
                    | (go_at_call 54; refine HP.out.mono ?_; rintro e w4 ⟨v, rfl, hv, t4, c4⟩; clear hv)
                    | (go_at_call 43; refine (HEr.out _ t4).mono ?_; rintro e w5 ⟨rfl, rfl⟩)
                    | (go_at_call 33; refine (works04 _).mono ?_; rintro e w8 ⟨rfl, hbel⟩))
                  go_ret
                  exact ⟨rfl, (HC.out.step c4 (by simp; exact hgw)).then_below hbel⟩
              · exfalso
                obtain rfl : j = k := by omega
                obtain ⟨q, hq0, hq⟩ := HQ.out
                rw [List.drop_of_length_le (by rw [List.length_take]; omega)] at hq
                have := congrArg List.length hq
                simp only [List.length_append] at this
                exact hq0 (List.eq_nil_of_length_eq_zero (by simp only [laidT, List.flatMap_nil, List.length_nil] at this; omega))
end Go.Proofs.Ytabdpebokpjljaa
