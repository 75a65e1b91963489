/- FrameBack: for every frames, parts and bytes behind the law answers true, and nothing that was there has turned. No condition. -/
import Derived.Test.YtabdpebokpjljaaF12
import Derived.Deep.LoopGhost
import Derived.Deep.DeepCutAuto
import Derived.Deep.Cut
import Derived.Deep.CutRange
import Derived.BigQuiet
import Derived.Test.YtabdpebokpjljaaG2
namespace Go.Proofs.Ytabdpebokpjljaa
open Go.RowKit

theorem nextS_len (l : List UInt8) (br : Bool) : (nextS l br).2.1.length ≤ l.length := by
  unfold nextS
  repeat' split
  all_goals simp only [List.length_drop]; omega
theorem Fw.cellAt {w0 w : World} {ao : Option Addr} {n c : Nat} {l : List Fr} (h : Fw w0 w ao n c l) {k : Nat} (hk : k < n) :
    ∃ g f, ao = some ⟨g, 0, none⟩ ∧ l[k]? = some f ∧ w.cell? ⟨g, k * 2, none⟩ = some (.int .i64 f.1) ∧ w.cell? ⟨g, k * 2 + 1, none⟩ = some (.string f.2) := by
  rcases h with ⟨_, h1, _, _⟩ | ⟨g, rfl, h1, h2, _⟩
  · omega
  · have hg := fcs_get l k (by omega)
    exact ⟨g, l[k]'(by omega), rfl, List.getElem?_eq_getElem (by omega), h2.cellAt hg.1, h2.cellAt hg.2⟩
theorem Chg.drewN {w w' : World} {S : List Nat} (h : Chg w w' S) (n : Nat) : Chg w (w'.drewN n) S := ⟨h.os, h.tape, h.output, h.size, h.block⟩
theorem back_s0 : nextS [] false = ((0, [], false, 0), [], false) := by simp [nextS]

set_option maxRecDepth 100000 in
set_option maxHeartbeats 4000000 in
theorem back_walk0 (ao : Option Addr) (n c : Nat) (l : List Fr) (bo : Option Addr) (m d : Nat) (sz : List UInt8) (s S : ByteArray) (w : World) (h : FrIn w ao n l) (hz : Src w 1 bo m (sz.map bv)) (hmx : m ≤ 9223372036854775807)
    (hs : s.size ≤ 9223372036854775807) (hS : S.size ≤ 3) (hcut : (3 < s.size ∧ s.extract 0 3 = S) ∨ (s.size ≤ 3 ∧ S = s)) : Calls Try.prog 16 #[.slice ao n c, .slice bo m d, .string s] w (Yes w) := by
  have hL := laid_any ao n c l w h
  unfold LaidTo at hL
  have HL := hid hL
  clear hL
  have hlF : (laidF (l.take 20)).length ≤ 20 := by have := laidF_len (l.take 20); rw [List.length_take] at this; omega
  have hlB : (laidB (l.take 20)).length ≤ 40100 := by have := laidB_len (l.take 20); rw [List.length_take] at this; omega
  have hgood := hid (laidF_good (l.take 20))
  have henc := hid (laidB_enc (l.take 20))
  clear h
  generalize laidF (l.take 20) = F at *
  generalize laidB (l.take 20) = B at *
  have HS := hid hS
  have HZ := hid hz
  clear hz
  have hS3 : (S.size : Int) ≤ 3 := by omega
  rcases hcut with ⟨h3, hx⟩ | ⟨h3, rfl⟩
  · have h3' : (3 : Int) < (s.size : Int) := by omega
    clear hS
    go_enter Try.func16, Try.ntmps16
    go_wp2_with (first
      | (go_at_call 58; refine HL.out.mono ?_; rintro e w1 ⟨xo, nF, cF, yo, nB, cB, rfl, hF1, hB1, hc1, hne1⟩)
      | (go_at_call 20; refine (new_in _).mono ?_; rintro e w3 ⟨g, rfl, hr3, hg3⟩)
      | (at_builtin; refine wp_appBS rfl _ _ rfl w yo nB cB B rfl hB1 hc1.size S rfl (by have := HS.out; omega) ?_; intro zo cZ w2 S2 hB2 hc2 hS2 hz2
         have hF2 : Fw w w2 xo nF cF F := hF1.keep hc2 (laid_sep (fun x y h1 h2 => (hne1 y x h2 h1).symm) hS2)
         have hC2 : Chg w w2 [] := hc1.step hc2 (fun k hk => by obtain ⟨x, h1, rfl⟩ := hS2 k hk; exact (hB1.block x h1).1)
         have hbs := hid hB2.bs
         have hNN : nB + S.size ≤ 40103 := by have h1 := hB1.bs.1; have h2 := HS.out; omega
         generalize hN : nB + S.size = N at *
         have hTT : Hid (B ++ S.data.toList = restF F S.data.toList 0) := by show _ = _; rw [henc.out]; rfl
         generalize B ++ S.data.toList = T at *
         clear hN hB2 hc2 hS2 hz2 hB1 hc1 hne1))
    clear hlB henc HL hx h3 h3' hs
    have hNN' : (N : Int) ≤ 40103 := by omega
    go_loopg [10, 11, 12] (m + N) (fun gh gs ts ps wx => ∃ (j turn p : Nat) (xs : List Nat) (held : List UInt8) (go : Option Addr) (cg : Nat), gh = (m - turn) + (N - p) ∧ gs = .slice go j cg ∧ ts = .int .i64 turn ∧ ps = .int .i64 p ∧ turn ≤ m ∧ p ≤ N ∧ j ≤ F.length ∧ held.length ≤ p ∧ BkT w2 wx g xs held go j cg (F.take j) ∧
      Hid (held ++ T.drop p = restF F S.data.toList j) ∧ Hid (nextS held false = ((0, [], false, 0), held, false)))
    case atStart => exact ⟨0, 0, 0, [], [], none, 0, by omega, rfl, rfl, rfl, by omega, by omega, by omega, by simp, ⟨hr3, .inl ⟨rfl, rfl, rfl, by simp⟩, by simp⟩, hTT, hid back_s0⟩
    case round =>
      obtain ⟨j, turn, p, xs, held, go, cg, hgh, rfl, rfl, rfl, htm, hpN, hjF, hhl, hT, HE, HX⟩ := hrel
      have htm' : (turn : Int) ≤ (m : Int) := by omega
      have hpN' : (p : Int) ≤ (N : Int) := by omega
      clear hr3 hTT
      by_cases hp : p < N
      · have hp' : (p : Int) < (N : Int) := by omega
        go_upto_if 45 with fail
        go_cut [11, 13] (fun ts ns wx => wx = wr ∧ ∃ turn' q : Nat, ts = .int .i64 turn' ∧ ns = .int .i64 q ∧ turn' ≤ m ∧ p + q ≤ N ∧ (m - turn') + (N - (p + q)) < (m - turn) + (N - p))
        case first =>
          by_cases ht : turn < m
          · have ht' : (turn : Int) < (m : Int) := by omega
            obtain ⟨b, o, rfl, hbl, hcell⟩ := HZ.out.form (by omega) (by decide)
            have hln : (sz.map bv).length = m := by have := HZ.out.1; omega
            have hget : (sz.map bv)[turn]? = some (bv (sz.getD turn 0)) := by
              rw [List.length_map] at hln
              rw [List.getElem?_map, List.getD_eq_getElem?_getD, List.getElem?_eq_getElem (by omega)]
              rfl
            have hc1 : wr.cell? ⟨b, o + turn, none⟩ = some (bv (sz.getD turn 0)) := by rw [(hC2.trans hT.rd.chg (by simp)).cell hbl (by simp)]; exact hcell _ _ hget
            unfold bv at hc1
            have hv := (sz.getD turn 0).toNat_lt
            generalize (sz.getD turn 0).toNat = v at *
            have hv' : (v : Int) ≤ 255 := by omega
            have HCell := hid hcell
            clear hcell hget hln hv
            go_wp2_with fail
            all_goals go_meet
            · exact ⟨rfl, turn + 1, v, by go_num, rfl, by omega, by omega, by omega⟩
            · exact ⟨rfl, turn + 1, N - p, by go_num, by go_num, by omega, by omega, by omega⟩
          · have ht' : ¬ ((turn : Int) < (m : Int)) := by omega
            go_wp2_with fail
            go_meet
            exact ⟨rfl, turn, N - p, rfl, by go_num, by omega, by omega, by omega⟩
        case rest =>
          obtain ⟨rfl, turn', q, rfl, rfl, htm2, hpq, hdec⟩ := hcut
          have hpq' : (p : Int) + (q : Int) ≤ (N : Int) := by omega
          have hnc := hbs.out.2.1
          have hcp : ¬ cZ = p := by omega
          obtain ⟨zb, zof, rfl, hzb, _⟩ := hbs.out.src.form (by omega) (by decide)
          have hsub := ((hbs.out.dropAt p hpN hcp).upto q (by omega)).keep hT.rd.chg (by simp)
          have HSub := hid hsub
          clear hsub
          have hlq : ((T.drop p).take q).length ≤ q := List.length_take_le _ _
          have hpush : pushS held false ((T.drop p).take q) = (0, held ++ (T.drop p).take q, false) := by
            unfold pushS
            rw [if_neg (by simp), if_neg (by omega)]
          have hP := push_in w2 g xs held false _ q (cZ - p) _ wc hT.rd HSub.out (by omega) (by omega)
          rw [hpush] at hP
          have HP := hid hP
          have HE2 : Hid ((held ++ (T.drop p).take q) ++ T.drop (p + q) = restF F S.data.toList j) := by
            show _ = _
            rw [List.append_assoc, ← List.drop_drop, List.take_append_drop]
            exact HE.out
          have hhl2 : (held ++ (T.drop p).take q).length ≤ p + q := by rw [List.length_append]; omega
          clear hP hpush hlq HE HX HSub
          generalize held ++ (T.drop p).take q = H2 at *
          go_wp2_with (go_at_call 21; refine HP.out.mono ?_; rintro e w5 ⟨rfl, xs5, hr5, hc5, hx5⟩)
          have hT5 := hT.rdr hr5 hc5 hx5
          clear hr5 hc5 hx5 HP hT hhl
          go_loopw [10, 14] (fun gs ks wx => ∃ (i j : Nat) (xs : List Nat) (held : List UInt8) (go : Option Addr) (cg : Nat), gs = .slice go j cg ∧ ks = .int .i64 i ∧ i ≤ j ∧ i ≤ 30 ∧ j ≤ F.length ∧ held.length ≤ p + q ∧ BkT w2 wx g xs held go j cg (F.take j) ∧ Hid (held ++ T.drop (p + q) = restF F S.data.toList j)) (fun _ ks _ => 30 - (intOf ks).toNat)
          case atStart => exact ⟨0, j, xs5, H2, go, cg, rfl, rfl, by omega, by omega, hjF, hhl2, hT5, HE2⟩
          case round =>
            obtain ⟨i, j2, xs6, h6, go6, cg6, rfl, rfl, hij, hi30, hj2, hh6, hT6, hE6⟩ := hrel
            clear HE2 hhl2 hT5
            have hi : (i : Int) < 30 := by omega
            have hN := next_in w2 g xs6 h6 false _ hT6.rd (by omega)
            rcases restF_next hgood.out (by have := HS.out; rw [Array.length_toList]; show S.size < 4; omega) hj2 hE6.out with hn | ⟨f, h', hf, hn, he⟩
            · rw [hn] at hN
              have HN := hid hN
              have HX := hid hn
              clear hN hn
              go_wp2_with (go_at_call 25; refine HN.out.mono ?_; rintro e w7 ⟨a7, c7, xs7, rfl, hb7, hy7, hr7, hc7, hx7⟩)
              go_roundg ((m - turn') + (N - (p + q)))
              case measure => omega
              case rel =>
                exact ⟨j2, turn', p + q, xs7, h6, go6, cg6, rfl, rfl, rfl, by go_num, htm2, hpq, hj2, hh6, hT6.rdr hr7 (hc7.mono (by simp)) hx7, hE6, HX⟩
            · rw [hn] at hN
              have hlh : h'.length ≤ h6.length := by
                have h1 := nextS_len h6 false
                rw [hn] at h1
                exact h1
              have HE := hid he
              have hB : Hid (str f.2.data.toList = f.2) := by
                show _ = _
                apply ByteArray.ext
                apply Array.toList_inj.1
                rw [str_data]
              have HF : Hid (F.take (j2 + 1) = F.take j2 ++ [f]) := by
                show _ = _
                rw [List.take_add_one, hf]; rfl
              have HN := hid hN
              have hlF2 : (F.take j2).length ≤ 20 := by rw [List.length_take]; omega
              have hj3 : j2 + 1 ≤ F.length := (List.getElem?_eq_some_iff.1 hf).1
              clear hN hn hf he
              generalize f.2.data.toList = fb at *
              go_wp2_with (first
                | (go_at_call 25; refine HN.out.mono ?_; rintro e w7 ⟨a7, c7, xs7, rfl, hb7, hy7, hr7, hc7, hx7⟩; have hcv : (convert 27 9 (.slice a7 fb.length c7)).run Try.prog w7 = .ok (.string f.2) w7 := by { rw [← hB.out]; exact run_str hb7 }
                   have hT7 := (hT6.rdr hr7 (hc7.mono (by simp)) hx7).same ((Chg.refl w7 []).alloc (.cells #[.int .i64 f.1, .string f.2] 102)))
                | (at_builtin; refine wp_appF rfl _ _ rfl w2 go6 j2 cg6 (F.take j2) rfl hT7.fw hT7.rd.chg.size f w7.heap.size rfl (by simp [World.cell?_alloc_at]) (by simp [World.cell?_alloc_at]) (by omega) ?_; intro zo d8 w8 S8 hF8 hc8 hS8 hz8))
              go_roundw
              case rel =>
                rw [← HF.out] at hF8
                exact ⟨i + 1, j2 + 1, xs7, h', zo, d8, rfl, by go_num, by omega, by omega, hj3, by omega, hT7.app hF8 hc8 hS8 hz8, HE⟩
              case measure => simp [intOf]; omega
      · obtain rfl : p = N := by omega
        have hnc := hbs.out.1
        have hTn : T.drop p = [] := List.drop_of_length_le (by omega)
        have hE := HE.out
        rw [hTn, List.append_nil] at hE
        obtain ⟨hjn, hh⟩ := restF_end hgood.out hjF hE HX.out
        subst hjn hh
        have hT3 := hT.rd
        have hnF : nF = F.length := by
          rcases hF2 with ⟨_, h1, _, rfl⟩ | ⟨_, _, h1, _⟩
          · rw [h1]; rfl
          · exact h1
        subst hnF
        have hF3 := hT.fw
        rw [List.take_length] at hF3
        have hF4 := hF2.keep hT3.chg (by simp)
        have hSS : S.data.toList.length = S.size := by rw [Array.length_toList]; rfl
        have hH := held_any g xs _ false _ hT3.rd
        rw [hSS] at hH
        have HH := hid hH
        clear hH hE hTn HE HX hSS hF2 hT hnc hbs hp hpN hpN' hhl hgood
        go_wp2_with (go_at_call 22; refine HH.out.mono ?_; rintro e w9 ⟨rfl, rfl⟩)
        have hC0 : Chg w wr [] := hC2.trans hT3.chg (by simp)
        have HC0 := hid hC0
        clear hC0 hT3 hC2
        go_loopw [19] (fun is wx => ∃ k : Nat, is = .int .i64 k ∧ k ≤ F.length ∧ Chg wr wx []) (fun is _ => F.length - (intOf is).toNat)
        case atStart => exact ⟨0, rfl, by omega, Chg.refl _ _⟩
        case round =>
          obtain ⟨k, rfl, hk, hC⟩ := hrel
          have hk' : (k : Int) ≤ (F.length : Int) := by omega
          by_cases hlt : k < F.length
          · have hlt' : (k : Int) < (F.length : Int) := by omega
            obtain ⟨g1, f, rfl, hf, e1, e2⟩ := (hF3.keep hC (by simp)).cellAt hlt
            obtain ⟨g2, f', rfl, hf', e3, e4⟩ := (hF4.keep hC (by simp)).cellAt hlt
            obtain rfl : f = f' := by rw [hf] at hf'; exact Option.some.inj hf'
            have HC := hid hC
            clear hf hf' hC hF3 hF4
            go_wp2

            go_quiet (fail)
            go_wp2
            go_roundw
            case rel => exact ⟨k + 1, by go_num, by omega, HC.out.drewN _⟩
            case measure => simp [intOf]; omega
          · have hlt' : ¬ ((k : Int) < (F.length : Int)) := by omega
            have HC := hid hC
            clear hC hF3 hF4
            go_wp2_with (go_at_call 23; refine (works10 _).mono ?_; rintro e w10 ⟨rfl, hbel⟩)
            go_ret
            exact ⟨rfl, (HC0.out.trans HC.out (by simp)).then_below hbel⟩
  · have h3' : (S.size : Int) ≤ 3 := by omega
    clear hS
    go_enter Try.func16, Try.ntmps16
    go_wp2_with (first
      | (go_at_call 58; refine HL.out.mono ?_; rintro e w1 ⟨xo, nF, cF, yo, nB, cB, rfl, hF1, hB1, hc1, hne1⟩)
      | (go_at_call 20; refine (new_in _).mono ?_; rintro e w3 ⟨g, rfl, hr3, hg3⟩)
      | (at_builtin; refine wp_appBS rfl _ _ rfl w yo nB cB B rfl hB1 hc1.size S rfl (by have := HS.out; omega) ?_; intro zo cZ w2 S2 hB2 hc2 hS2 hz2
         have hF2 : Fw w w2 xo nF cF F := hF1.keep hc2 (laid_sep (fun x y h1 h2 => (hne1 y x h2 h1).symm) hS2)
         have hC2 : Chg w w2 [] := hc1.step hc2 (fun k hk => by obtain ⟨x, h1, rfl⟩ := hS2 k hk; exact (hB1.block x h1).1)
         have hbs := hid hB2.bs
         have hNN : nB + S.size ≤ 40103 := by have h1 := hB1.bs.1; have h2 := HS.out; omega
         generalize hN : nB + S.size = N at *
         have hTT : Hid (B ++ S.data.toList = restF F S.data.toList 0) := by show _ = _; rw [henc.out]; rfl
         generalize B ++ S.data.toList = T at *
         clear hN hB2 hc2 hS2 hz2 hB1 hc1 hne1))
    clear hlB henc HL h3 h3' hs
    have hNN' : (N : Int) ≤ 40103 := by omega
    go_loopg [10, 11, 12] (m + N) (fun gh gs ts ps wx => ∃ (j turn p : Nat) (xs : List Nat) (held : List UInt8) (go : Option Addr) (cg : Nat), gh = (m - turn) + (N - p) ∧ gs = .slice go j cg ∧ ts = .int .i64 turn ∧ ps = .int .i64 p ∧ turn ≤ m ∧ p ≤ N ∧ j ≤ F.length ∧ held.length ≤ p ∧ BkT w2 wx g xs held go j cg (F.take j) ∧
      Hid (held ++ T.drop p = restF F S.data.toList j) ∧ Hid (nextS held false = ((0, [], false, 0), held, false)))
    case atStart => exact ⟨0, 0, 0, [], [], none, 0, by omega, rfl, rfl, rfl, by omega, by omega, by omega, by simp, ⟨hr3, .inl ⟨rfl, rfl, rfl, by simp⟩, by simp⟩, hTT, hid back_s0⟩
    case round =>
      obtain ⟨j, turn, p, xs, held, go, cg, hgh, rfl, rfl, rfl, htm, hpN, hjF, hhl, hT, HE, HX⟩ := hrel
      have htm' : (turn : Int) ≤ (m : Int) := by omega
      have hpN' : (p : Int) ≤ (N : Int) := by omega
      clear hr3 hTT
      by_cases hp : p < N
      · have hp' : (p : Int) < (N : Int) := by omega
        go_upto_if 45 with fail
        go_cut [11, 13] (fun ts ns wx => wx = wr ∧ ∃ turn' q : Nat, ts = .int .i64 turn' ∧ ns = .int .i64 q ∧ turn' ≤ m ∧ p + q ≤ N ∧ (m - turn') + (N - (p + q)) < (m - turn) + (N - p))
        case first =>
          by_cases ht : turn < m
          · have ht' : (turn : Int) < (m : Int) := by omega
            obtain ⟨b, o, rfl, hbl, hcell⟩ := HZ.out.form (by omega) (by decide)
            have hln : (sz.map bv).length = m := by have := HZ.out.1; omega
            have hget : (sz.map bv)[turn]? = some (bv (sz.getD turn 0)) := by
              rw [List.length_map] at hln
              rw [List.getElem?_map, List.getD_eq_getElem?_getD, List.getElem?_eq_getElem (by omega)]
              rfl
            have hc1 : wr.cell? ⟨b, o + turn, none⟩ = some (bv (sz.getD turn 0)) := by rw [(hC2.trans hT.rd.chg (by simp)).cell hbl (by simp)]; exact hcell _ _ hget
            unfold bv at hc1
            have hv := (sz.getD turn 0).toNat_lt
            generalize (sz.getD turn 0).toNat = v at *
            have hv' : (v : Int) ≤ 255 := by omega
            have HCell := hid hcell
            clear hcell hget hln hv
            go_wp2_with fail
            all_goals go_meet
            · exact ⟨rfl, turn + 1, v, by go_num, rfl, by omega, by omega, by omega⟩
            · exact ⟨rfl, turn + 1, N - p, by go_num, by go_num, by omega, by omega, by omega⟩
          · have ht' : ¬ ((turn : Int) < (m : Int)) := by omega
            go_wp2_with fail
            go_meet
            exact ⟨rfl, turn, N - p, rfl, by go_num, by omega, by omega, by omega⟩
        case rest =>
          obtain ⟨rfl, turn', q, rfl, rfl, htm2, hpq, hdec⟩ := hcut
          have hpq' : (p : Int) + (q : Int) ≤ (N : Int) := by omega
          have hnc := hbs.out.2.1
          have hcp : ¬ cZ = p := by omega
          obtain ⟨zb, zof, rfl, hzb, _⟩ := hbs.out.src.form (by omega) (by decide)
          have hsub := ((hbs.out.dropAt p hpN hcp).upto q (by omega)).keep hT.rd.chg (by simp)
          have HSub := hid hsub
          clear hsub
          have hlq : ((T.drop p).take q).length ≤ q := List.length_take_le _ _
          have hpush : pushS held false ((T.drop p).take q) = (0, held ++ (T.drop p).take q, false) := by
            unfold pushS
            rw [if_neg (by simp), if_neg (by omega)]
          have hP := push_in w2 g xs held false _ q (cZ - p) _ wc hT.rd HSub.out (by omega) (by omega)
          rw [hpush] at hP
          have HP := hid hP
          have HE2 : Hid ((held ++ (T.drop p).take q) ++ T.drop (p + q) = restF F S.data.toList j) := by
            show _ = _
            rw [List.append_assoc, ← List.drop_drop, List.take_append_drop]
            exact HE.out
          have hhl2 : (held ++ (T.drop p).take q).length ≤ p + q := by rw [List.length_append]; omega
          clear hP hpush hlq HE HX HSub
          generalize held ++ (T.drop p).take q = H2 at *
          go_wp2_with (go_at_call 21; refine HP.out.mono ?_; rintro e w5 ⟨rfl, xs5, hr5, hc5, hx5⟩)
          have hT5 := hT.rdr hr5 hc5 hx5
          clear hr5 hc5 hx5 HP hT hhl
          go_loopw [10, 14] (fun gs ks wx => ∃ (i j : Nat) (xs : List Nat) (held : List UInt8) (go : Option Addr) (cg : Nat), gs = .slice go j cg ∧ ks = .int .i64 i ∧ i ≤ j ∧ i ≤ 30 ∧ j ≤ F.length ∧ held.length ≤ p + q ∧ BkT w2 wx g xs held go j cg (F.take j) ∧ Hid (held ++ T.drop (p + q) = restF F S.data.toList j)) (fun _ ks _ => 30 - (intOf ks).toNat)
          case atStart => exact ⟨0, j, xs5, H2, go, cg, rfl, rfl, by omega, by omega, hjF, hhl2, hT5, HE2⟩
          case round =>
            obtain ⟨i, j2, xs6, h6, go6, cg6, rfl, rfl, hij, hi30, hj2, hh6, hT6, hE6⟩ := hrel
            clear HE2 hhl2 hT5
            have hi : (i : Int) < 30 := by omega
            have hN := next_in w2 g xs6 h6 false _ hT6.rd (by omega)
            rcases restF_next hgood.out (by have := HS.out; rw [Array.length_toList]; show S.size < 4; omega) hj2 hE6.out with hn | ⟨f, h', hf, hn, he⟩
            · rw [hn] at hN
              have HN := hid hN
              have HX := hid hn
              clear hN hn
              go_wp2_with (go_at_call 25; refine HN.out.mono ?_; rintro e w7 ⟨a7, c7, xs7, rfl, hb7, hy7, hr7, hc7, hx7⟩)
              go_roundg ((m - turn') + (N - (p + q)))
              case measure => omega
              case rel =>
                exact ⟨j2, turn', p + q, xs7, h6, go6, cg6, rfl, rfl, rfl, by go_num, htm2, hpq, hj2, hh6, hT6.rdr hr7 (hc7.mono (by simp)) hx7, hE6, HX⟩
            · rw [hn] at hN
              have hlh : h'.length ≤ h6.length := by
                have h1 := nextS_len h6 false
                rw [hn] at h1
                exact h1
              have HE := hid he
              have hB : Hid (str f.2.data.toList = f.2) := by
                show _ = _
                apply ByteArray.ext
                apply Array.toList_inj.1
                rw [str_data]
              have HF : Hid (F.take (j2 + 1) = F.take j2 ++ [f]) := by
                show _ = _
                rw [List.take_add_one, hf]; rfl
              have HN := hid hN
              have hlF2 : (F.take j2).length ≤ 20 := by rw [List.length_take]; omega
              have hj3 : j2 + 1 ≤ F.length := (List.getElem?_eq_some_iff.1 hf).1
              clear hN hn hf he
              generalize f.2.data.toList = fb at *
              go_wp2_with (first
                | (go_at_call 25; refine HN.out.mono ?_; rintro e w7 ⟨a7, c7, xs7, rfl, hb7, hy7, hr7, hc7, hx7⟩; have hcv : (convert 27 9 (.slice a7 fb.length c7)).run Try.prog w7 = .ok (.string f.2) w7 := by { rw [← hB.out]; exact run_str hb7 }
                   have hT7 := (hT6.rdr hr7 (hc7.mono (by simp)) hx7).same ((Chg.refl w7 []).alloc (.cells #[.int .i64 f.1, .string f.2] 102)))
                | (at_builtin; refine wp_appF rfl _ _ rfl w2 go6 j2 cg6 (F.take j2) rfl hT7.fw hT7.rd.chg.size f w7.heap.size rfl (by simp [World.cell?_alloc_at]) (by simp [World.cell?_alloc_at]) (by omega) ?_; intro zo d8 w8 S8 hF8 hc8 hS8 hz8))
              go_roundw
              case rel =>
                rw [← HF.out] at hF8
                exact ⟨i + 1, j2 + 1, xs7, h', zo, d8, rfl, by go_num, by omega, by omega, hj3, by omega, hT7.app hF8 hc8 hS8 hz8, HE⟩
              case measure => simp [intOf]; omega
      · obtain rfl : p = N := by omega
        have hnc := hbs.out.1
        have hTn : T.drop p = [] := List.drop_of_length_le (by omega)
        have hE := HE.out
        rw [hTn, List.append_nil] at hE
        obtain ⟨hjn, hh⟩ := restF_end hgood.out hjF hE HX.out
        subst hjn hh
        have hT3 := hT.rd
        have hnF : nF = F.length := by
          rcases hF2 with ⟨_, h1, _, rfl⟩ | ⟨_, _, h1, _⟩
          · rw [h1]; rfl
          · exact h1
        subst hnF
        have hF3 := hT.fw
        rw [List.take_length] at hF3
        have hF4 := hF2.keep hT3.chg (by simp)
        have hSS : S.data.toList.length = S.size := by rw [Array.length_toList]; rfl
        have hH := held_any g xs _ false _ hT3.rd
        rw [hSS] at hH
        have HH := hid hH
        clear hH hE hTn HE HX hSS hF2 hT hnc hbs hp hpN hpN' hhl hgood
        go_wp2_with (go_at_call 22; refine HH.out.mono ?_; rintro e w9 ⟨rfl, rfl⟩)
        have hC0 : Chg w wr [] := hC2.trans hT3.chg (by simp)
        have HC0 := hid hC0
        clear hC0 hT3 hC2
        go_loopw [19] (fun is wx => ∃ k : Nat, is = .int .i64 k ∧ k ≤ F.length ∧ Chg wr wx []) (fun is _ => F.length - (intOf is).toNat)
        case atStart => exact ⟨0, rfl, by omega, Chg.refl _ _⟩
        case round =>
          obtain ⟨k, rfl, hk, hC⟩ := hrel
          have hk' : (k : Int) ≤ (F.length : Int) := by omega
          by_cases hlt : k < F.length
          · have hlt' : (k : Int) < (F.length : Int) := by omega
            obtain ⟨g1, f, rfl, hf, e1, e2⟩ := (hF3.keep hC (by simp)).cellAt hlt
            obtain ⟨g2, f', rfl, hf', e3, e4⟩ := (hF4.keep hC (by simp)).cellAt hlt
            obtain rfl : f = f' := by rw [hf] at hf'; exact Option.some.inj hf'
            have HC := hid hC
            clear hf hf' hC hF3 hF4
            go_wp2

            go_quiet (fail)
            go_wp2
            go_roundw
            case rel => exact ⟨k + 1, by go_num, by omega, HC.out.drewN _⟩
            case measure => simp [intOf]; omega
          · have hlt' : ¬ ((k : Int) < (F.length : Int)) := by omega
            have HC := hid hC
            clear hC hF3 hF4
            go_wp2_with (go_at_call 23; refine (works10 _).mono ?_; rintro e w10 ⟨rfl, hbel⟩)
            go_ret
            exact ⟨rfl, (HC0.out.trans HC.out (by simp)).then_below hbel⟩

theorem back_walk {w : World} (ao : Option Addr) (n c : Nat) (l : List Fr) (bo : Option Addr) (m d : Nat) (sz : List UInt8) (s : ByteArray) (h : FrIn w ao n l) (hz : AIn (fun b => [bv b]) 1 (fun _ => True) w bo m sz) (hs : s.size ≤ maxLen) :
    Calls Try.prog 16 #[.slice ao n c, .slice bo m d, .string s] w (Yes w) := by
  unfold maxLen at hs
  refine back_walk0 ao n c l bo m d sz s (cutB s 3) w h hz.src1 hz.max hs (by rw [cutB_size]; omega) ?_
  by_cases h3 : 3 < s.size
  · exact .inl ⟨h3, (cutB_lt h3).symm⟩
  · exact .inr ⟨by omega, cutB_ge h3⟩
end Go.Proofs.Ytabdpebokpjljaa
