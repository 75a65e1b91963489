/- Walks: Next of the reference's reader answers as the plain function of a reader says. -/
import Derived.Test.YtabdpebokpjljaaR2
namespace Go.Proofs.Ytabdpebokpjljaa
open Go.RowKit

theorem be_small3 (l : List UInt8) (h : l.length ≤ 3) : be l < 16777216 := by
  have h1 := be_lt l
  have h2 : 256 ^ l.length ≤ 256 ^ 3 := Nat.pow_le_pow_right (by decide) h
  have h3 : (256 : Nat) ^ 3 = 16777216 := by decide
  omega
theorem Bw.mono {w0 w1 w : World} {ao : Option Addr} {n c : Nat} {l : List UInt8} (h : Bw w1 w ao n c l) (hs : w0.heap.size ≤ w1.heap.size) : Bw w0 w ao n c l := by
  rcases h with h | ⟨g, e1, e2, e3, e4⟩
  · exact .inl h
  · exact .inr ⟨g, e1, e2, e3, by omega⟩
theorem RqNext.no {w w' : World} {g : Nat} {xs : List Nat} {l : List UInt8} {br : Bool} {k : Int} (h : Rq w' g xs l br) (hc : Chg w w' [g]) :
    RqNext w g xs ((0, [], false, k), l, br) (.returned (.tuple #[.int .i64 0, .slice none 0 0, .bool false, .int .i64 k])) w' :=
  ⟨none, 0, xs, rfl, Bs.nil _, h, hc, fun _ hx => .inl hx⟩

set_option maxRecDepth 100000 in
set_option maxHeartbeats 2000000 in
theorem rnext_any (g : Nat) (xs : List Nat) (l : List UInt8) (br : Bool) (w : World) (h : Rq w g xs l br) (hl : l.length ≤ 1000000) :
    Calls Try.prog 26 #[.pointer (some ⟨g, 0, none⟩)] w (RqNext w g xs (nextS l br)) := by
  have h' := h
  obtain ⟨bo, d, hg, hbo, hx1, hx2⟩ := h'
  have c0 : w.cell? ⟨g, 0, none⟩ = some (.slice bo l.length d) := by rw [cell_of_row w g 0 _ _ _ hg]; rfl
  have c1 : w.cell? ⟨g, 1, none⟩ = some (.bool br) := by rw [cell_of_row w g 1 _ _ _ hg]; rfl
  have f0 : w.frozen? ⟨g, 0, none⟩ = false := frozen_blk 0 hg
  have f1 : w.frozen? ⟨g, 1, none⟩ = false := frozen_blk 1 hg
  have hlt := heap_lt hg
  have H := hid h
  have HG := hid hg
  have HBO := hid hbo
  have hle := hbo.2.1
  have hmx := hbo.2.2.1
  unfold maxLen at hmx
  clear h hg hx1 hx2
  cases br with
  | true =>
    rw [show nextS l true = ((0, [], false, 4), l, true) from by simp [nextS]]
    clear hbo
    go_enter Try.func26, Try.ntmps26
    go_wp2
    refine bodyPost_ret (results_tmp4 rfl _ _ _) rfl ?_
    exact RqNext.no H.out (Chg.refl _ _)
  | false =>
    by_cases h4 : l.length < 4
    · rw [show nextS l false = ((0, [], false, 0), l, false) from by simp [nextS, h4]]
      have d1 : (l.length : Int) < 4 := by omega
      clear hbo h4
      go_enter Try.func26, Try.ntmps26
      go_wp2
      refine bodyPost_ret (results_tmp4 rfl _ _ _) rfl ?_
      exact RqNext.no H.out (Chg.refl _ _)
    · obtain ⟨b, o, rfl, hbl, hcell⟩ := hbo.src.form (by omega) (by decide)
      have d1 : (4 : Int) ≤ (l.length : Int) := by omega
      have hcb : ∀ j (hj : j < l.length), w.cell? ⟨b, o + j, none⟩ = some (.int .u8 (l[j].toNat : Int)) := fun j hj => hcell j _ (by simp [hj, bv])
      have HC := hid hcb
      clear hcell hcb hbo
      go_enter Try.func26, Try.ntmps26
      go_wp2
      go_loop [6, 7] (fun v i => ∃ k : Nat, k ≤ 4 ∧ i = .int .i64 k ∧ v = .int .i64 (be (l.take k))) (fun _ i => 4 - (intOf i).toNat)
      case atStart => exact ⟨0, by omega, rfl, rfl⟩
      case round =>
        obtain ⟨k, hk, rfl, rfl⟩ := hrel
        by_cases hlt4 : k < 4
        · have hkl : k < l.length := by omega
          have hc := HC.out k hkl
          have H1 := hid (be_take_succ l k hkl)
          have hb1 : (be (l.take k) : Int) ≤ 16777216 := by have := be_small3 (l.take k) (by simp; omega); omega
          have hb2 := l[k].toNat_lt
          have hkl' : (k : Int) < (l.length : Int) := by omega
          generalize be (l.take k) = N at *
          generalize l[k].toNat = B at *
          have hb3 : (B : Int) ≤ 255 := by omega
          go_wp2
          go_round
          case rel => exact ⟨k + 1, by omega, by go_num, by rw [H1.out]; go_num⟩
          case measure => simp [intOf]; omega
        · obtain rfl : k = 4 := by omega
          have hn4 : be (l.take 4) < 4294967296 := by have := be_lt (l.take 4); rw [List.length_take, Nat.min_eq_left (by omega)] at this; exact this
          generalize hn : be (l.take 4) = n at *
          have HN := hid hn
          clear hn
          by_cases hb : n < 1 ∨ 16385 < n
          · have HX : Hid (nextS l false = ((0, [], false, 4), l, true)) := by
              show _ = _
              unfold nextS
              rw [HN.out, if_neg (by decide), if_neg h4, if_pos hb]
            have k1 : Rq (w.setCell ⟨g, 1, none⟩ (.bool true)) g xs l true := H.out.set1 true
            rcases hb with hb | hb
            · obtain rfl : n = 0 := by omega
              go_wp2
              refine bodyPost_ret (results_tmp4 rfl _ _ _) rfl ?_
              rw [HX.out]; exact RqNext.no k1 (set_chg _ _ _ _)
            · have e1 : (16385 : Int) < (n : Int) := by omega
              have e2 : ((n : Int) == 0) = false := by simp; omega
              go_wp2
              refine bodyPost_ret (results_tmp4 rfl _ _ _) rfl ?_
              rw [HX.out]; exact RqNext.no k1 (set_chg _ _ _ _)
          · have e1 : (n : Int) ≤ 16385 := by omega
            have e2 : ((n : Int) == 0) = false := by simp; omega
            have e3 : (1 : Int) ≤ (n : Int) := by omega
            by_cases h5 : l.length < 5
            · have HX : Hid (nextS l false = ((0, [], false, 0), l, false)) := by
                show _ = _
                unfold nextS
                rw [HN.out, if_neg (by decide), if_neg h4, if_neg hb, if_pos h5]
              have e4 : (l.length : Int) ≤ 4 := by omega
              have e5 : (l.length : Int) < 4 + (n : Int) := by omega
              clear h5 hb h4
              go_wp2
              refine bodyPost_ret (results_tmp4 rfl _ _ _) rfl ?_
              rw [HX.out]; exact RqNext.no H.out (Chg.refl _ _)
            · have h5' : 4 < l.length := by omega
              have hd : (l.getD 4 0).toNat = l[4].toNat := by rw [List.getD_eq_getElem?_getD, List.getElem?_eq_getElem h5']; rfl
              have hc4 := HC.out 4 h5'
              have hkb := l[4].toNat_lt
              have e4 : (4 : Int) < (l.length : Int) := by omega
              generalize hk : l[4].toNat = kk at *
              have HD := hid hd
              have HK := hid hk
              clear hd hk
              by_cases hbk : kk < 1 ∨ 9 < kk
              · have HX : Hid (nextS l false = ((0, [], false, 4), l, true)) := by
                  show _ = _
                  unfold nextS
                  rw [HN.out, HD.out, if_neg (by decide), if_neg h4, if_neg hb, if_neg h5, if_pos hbk]
                have k1 : Rq (w.setCell ⟨g, 1, none⟩ (.bool true)) g xs l true := H.out.set1 true
                clear hb h4 h5
                rcases hbk with hbk | hbk
                · have e5 : (kk : Int) < 1 := by omega
                  go_wp2
                  refine bodyPost_ret (results_tmp4 rfl _ _ _) rfl ?_
                  rw [HX.out]; exact RqNext.no k1 (set_chg _ _ _ _)
                · have e5 : (9 : Int) < (kk : Int) := by omega
                  have e6 : decide ((kk : Int) < 1) = false := by simp; omega
                  go_wp2
                  refine bodyPost_ret (results_tmp4 rfl _ _ _) rfl ?_
                  rw [HX.out]; exact RqNext.no k1 (set_chg _ _ _ _)
              · have e5 : (1 : Int) ≤ (kk : Int) := by omega
                have e6 : (kk : Int) ≤ 9 := by omega
                by_cases hp : l.length < 4 + n
                · have HX : Hid (nextS l false = ((0, [], false, 0), l, false)) := by
                    show _ = _
                    unfold nextS
                    rw [HN.out, HD.out, if_neg (by decide), if_neg h4, if_neg hb, if_neg h5, if_neg hbk, if_pos hp]
                  have e7 : (l.length : Int) < 4 + (n : Int) := by omega
                  clear hb h4 h5 hbk hp
                  go_wp2
                  refine bodyPost_ret (results_tmp4 rfl _ _ _) rfl ?_
                  rw [HX.out]; exact RqNext.no H.out (Chg.refl _ _)
                · have HX : Hid (nextS l false = (((kk : Int), (l.take (4 + n)).drop 5, true, 0), l.drop (4 + n), false)) := by
                    show _ = _
                    unfold nextS
                    rw [HN.out, HD.out, if_neg (by decide), if_neg h4, if_neg hb, if_neg h5, if_neg hbk, if_neg hp]
                  generalize hm : 4 + n = m at *
                  have HM := hid hm
                  have hml : m ≤ l.length := by omega
                  have e7 : (m : Int) ≤ (l.length : Int) := by omega
                  have e8 : (5 : Int) ≤ (m : Int) := by omega
                  have e9 : 4 + (n : Int) = (m : Int) := by omega
                  have hB := (HBO.out.upto m hml).drop 5 (by omega)
                  have hR := HBO.out.drop m hml
                  have i1 : (if d = 5 then some ({ block := b, off := o } : Addr) else some { block := b, off := o + 5 }) = some { block := b, off := if d = 5 then o else o + 5 } := by split <;> rfl
                  have i2 : (if d = m then some ({ block := b, off := o } : Addr) else some { block := b, off := o + m }) = some { block := b, off := if d = m then o else o + m } := by split <;> rfl
                  have HB := hid hB
                  have HR := hid hR
                  generalize (if d = 5 then o else o + 5) = ob at *
                  generalize (if d = m then o else o + m) = orr at *
                  clear hB hR hm hp hbk h5 hb h4
                  go_wp2_with (first
                    | (at_builtin; (refine wp_appN rfl _ _ rfl rfl (some ⟨b, ob, none⟩) (m - 5) (d - 5) ((l.take m).drop 5) rfl HB.out (by simp; omega) ?_); intro yo d2 w2 hB2 hc2
                       have g2 : w2.cell? ⟨g, 0, none⟩ = some (.slice (some ⟨b, o, none⟩) l.length d) := by { rw [hc2.cell hlt (by simp)]; exact c0 })
                    | (at_builtin; (refine wp_appN rfl _ _ rfl rfl (some ⟨b, orr, none⟩) (l.length - m) (d - m) (l.drop m) rfl (HR.out.keep hc2 (by simp)) (by simp; omega) ?_); intro zo d3 w3 hB3 hc3
                       have hc4 : Chg w w3 [] := hc2.trans hc3 (by simp)
                       have g3 : w3.cell? ⟨g, 0, none⟩ = some (.slice (some ⟨b, o, none⟩) l.length d) := by { rw [hc4.cell hlt (by simp)]; exact c0 }
                       have f3 : w3.frozen? ⟨g, 0, none⟩ = false := by { rw [hc4.frozen hlt (by simp)]; exact f0 }))
                  refine bodyPost_ret (results_tmp4 rfl _ _ _) rfl ?_
                  rw [HX.out]
                  have hf := rq_fin HG.out hc4 (hB3.mono hc2.size)
                  rw [List.length_drop] at hf
                  obtain ⟨xs', r1, r2, r3⟩ := hf
                  have hl5 : ((l.take m).drop 5).length = m - 5 := by simp; omega
                  refine ⟨yo, d2, xs', by simp only; rw [hl5]; rfl, (hB2.bs.keep hc3 (by simp)).keep (set_chg _ _ _ _) (fun x hx => ?_), r1, r2, fun x hx => .inr (r3 x hx)⟩
                  have := (hB2.block x hx).1
                  simp
                  omega
end Go.Proofs.Ytabdpebokpjljaa
