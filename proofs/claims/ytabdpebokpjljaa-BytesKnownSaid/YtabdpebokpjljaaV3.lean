/- Walks: Row of numbers, of the program's tape, with the two closures that the laws hand it. -/
import Derived.Test.YtabdpebokpjljaaV2
import Derived.Deep.LoopGhost
namespace Go.Proofs.Ytabdpebokpjljaa
open Go.RowKit

/-- What Row leaves. -/
def PRow (W : World) (g r : Nat) (vs : List Nat) (s : St) (e : Ending) (w' : World) : Prop :=
  ∃ ao c, e = .returned (.slice ao vs.length c) ∧ Uw W w' ao vs.length c vs ∧ Tp w' g r s ∧ Chg W w' [g]

theorem cl38 (g r bx : Nat) (s : St) (wd : Int) (w : World) (h : Tp w g r s) (hb : w.cell? ⟨bx, 1, none⟩ = some (.int .i64 wd)) :
    Calls Try.prog 38 #[.pointer (some ⟨g, 0, none⟩), .pointer (some ⟨bx, 0, none⟩)] w (TpTo w g r (.int .u64 (numS s wd).1) (numS s wd).2) := by
  have HP := hid (num_any g r s wd w h)
  clear h
  generalize numS s wd = R at *
  go_enter Try.func38, Try.ntmps38
  go_wp2_with (go_at_call 39; refine HP.out.mono ?_; rintro e w2 ⟨rfl, h1, h2⟩)
  go_ret
  exact ⟨rfl, h1, h2⟩

theorem cl48 (g r : Nat) (s : St) (w : World) (h : Tp w g r s) :
    Calls Try.prog 48 #[.pointer (some ⟨g, 0, none⟩)] w (TpTo w g r (.int .u64 (numS s 1).1) (numS s 1).2) := by
  have HP := hid (num_any g r s 1 w h)
  clear h
  generalize numS s 1 = R at *
  go_enter Try.func48, Try.ntmps48
  go_wp2_with (go_at_call 39; refine HP.out.mono ?_; rintro e w2 ⟨rfl, h1, h2⟩)
  go_ret
  exact ⟨rfl, h1, h2⟩

theorem tp_flag {w : World} {g r : Nat} {s : St} (h : Tp w g r s) : w.cell? ⟨g, 1, none⟩ = some (.bool true) ∧ w.cell? ⟨g, 2, none⟩ = some (.bool s.2) := by
  obtain ⟨o, c, hh⟩ := h
  exact ⟨hh.c1, hh.c2⟩
theorem whole_tp (g r : Nat) (s : St) (w : World) (h : Tp w g r s) : Calls Try.prog 65 #[.pointer (some ⟨g, 0, none⟩)] w fun e w' => e = .returned (.bool (!s.2)) ∧ w = w' := by
  obtain ⟨h1, h2⟩ := tp_flag h
  have := whole_any g true s.2 w h1 h2
  simpa using this

set_option maxRecDepth 100000 in
set_option maxHeartbeats 2000000 in
theorem prow38 (g r : Nat) (bx : Nat) (wd : Int) (s : St) (most : Int) (w : World) (h : Tp w g r s) (hm : most ≤ 9223372036854775807) (hb : w.cell? ⟨bx, 1, none⟩ = some (.int .i64 wd)) (hbg : bx ≠ g) :
    Calls Try.prog 37 #[.pointer (some ⟨g, 0, none⟩), .int .i64 most, .func (.func 38) #[] #[.pointer (some ⟨bx, 0, none⟩)]] w (PRow w g r (rowS s most wd).1 (rowS s most wd).2) := by
  have hbl : bx < w.heap.size := World.block_lt_of_cell? w _ hb
  have hCl : ∀ S W, Tp W g r S → Chg w W [g] → Calls Try.prog 38 #[.pointer (some ⟨g, 0, none⟩), .pointer (some ⟨bx, 0, none⟩)] W (TpTo W g r (.int .u64 (numS S wd).1) (numS S wd).2) := fun S W hW hC => cl38 g r bx S wd W hW ((hC.cell (p := ⟨bx, 1, none⟩) hbl (by simp; exact hbg)).trans hb)
  have HCl := hid hCl
  clear hCl hb hbg hbl
  by_cases hm0 : most < 0
  · rw [show rowS s most wd = ([], (s.1, true)) from by rw [rowS, if_pos hm0]]
    have HT := hid (tear_any g r s w h)
    clear h HCl
    go_enter Try.func37, Try.ntmps37
    go_wp2_with (go_at_call 51; refine HT.out.mono ?_; rintro e w2 ⟨rfl, h1, h2⟩)
    go_ret
    exact ⟨none, 0, rfl, Uw.nil _ _, h1, h2⟩
  · obtain ⟨m, rfl⟩ := Int.eq_ofNat_of_zero_le (Int.not_lt.1 hm0)
    have hR : rowS s m wd = if (iterS wd (belowS s 2 m).1 [] (belowS s 2 m).2).2.2 then ([], (iterS wd (belowS s 2 m).1 [] (belowS s 2 m).2).2) else iterS wd (belowS s 2 m).1 [] (belowS s 2 m).2 := by
      rw [rowS, if_neg hm0, Int.toNat_natCast]
    rw [hR]
    have hB := below_any g r s 2 m w h (by omega)
    have hN := below2_lt s m
    generalize belowS s 2 m = B at *
    obtain ⟨N, s1⟩ := B
    simp only at hB hN ⊢
    generalize hRR : iterS wd N [] s1 = RR at *
    have HRR := hid hRR
    have HB := hid hB
    have hN' : (N : Int) ≤ 65535 := by omega
    obtain ⟨hqw, hrw, _⟩ := h.lt
    clear hB h hR hRR
    have hpost : ∀ (ao : Option Addr) (c : Nat) (w' : World), Uw w w' ao RR.1.length c RR.1 → Tp w' g r RR.2 → Chg w w' [g] →
        (RR.2.2 = true → PRow w g r (if RR.2.2 = true then ([], RR.2) else RR).1 (if RR.2.2 = true then ([], RR.2) else RR).2 (.returned (.slice none 0 0)) w') ∧
        (RR.2.2 = false → PRow w g r (if RR.2.2 = true then ([], RR.2) else RR).1 (if RR.2.2 = true then ([], RR.2) else RR).2 (.returned (.slice ao RR.1.length c)) w') := fun ao c w' h1 h2 h3 =>
      ⟨fun ht => by rw [if_pos ht]; exact ⟨none, 0, rfl, Uw.nil _ _, h2, h3⟩, fun ht => by rw [if_neg (by simp [ht])]; exact ⟨ao, c, rfl, h1, h2, h3⟩⟩
    have HPost := hid hpost
    clear hpost
    generalize hPP : PRow w g r (if RR.2.2 = true then ([], RR.2) else RR).1 (if RR.2.2 = true then ([], RR.2) else RR).2 = PP at *
    clear hPP
    go_enter Try.func37, Try.ntmps37
    go_wp2_with (go_at_call 46; refine HB.out.mono ?_; rintro e w2 ⟨rfl, t2, c2⟩)
    go_loopg [8] N (fun gh ls wx => ∃ (vs : List Nat) (ao : Option Addr) (c : Nat) (s : St), gh = N - vs.length ∧ ls = .slice ao vs.length c ∧ vs.length ≤ N ∧ Uw w wx ao vs.length c vs ∧ Tp wx g r s ∧ Chg w wx [g] ∧ Hid (iterS wd (N - vs.length) vs s = RR))
    case atStart => exact ⟨[], none, 0, s1, rfl, rfl, by simp, Uw.nil _ _, t2, c2, HRR⟩
    case round =>
      clear t2 c2 HRR HB
      obtain ⟨vs, ao, c, s, hgh, rfl, hvN, hU, hT, hC, HI⟩ := hrel
      have HGH := hid hgh
      have hvN' : (vs.length : Int) ≤ (N : Int) := by omega
      have hwh := whole_tp g r s wr hT
      obtain ⟨l, t⟩ := s
      simp only at hwh
      clear hgh
      cases t with
      | true =>
        have hI := HI.out
        rw [iterS_torn rfl] at hI
        have hres := (HPost.out ao c wr (by rw [← hI]; exact hU) (by rw [← hI]; exact hT) hC).1 (by rw [← hI])
        have HRes := hid hres
        have HWh := hid hwh
        clear hres hU hT hC HI hI hwh HGH
        by_cases hlt : vs.length < N
        · have hlt' : (vs.length : Int) < (N : Int) := by omega
          go_wp2_with (go_at_call 65; refine HWh.out.mono ?_; rintro e w3 ⟨rfl, rfl⟩)
          exact HRes.out
        · have hlt' : ¬ ((vs.length : Int) < (N : Int)) := by omega
          go_wp2_with (go_at_call 65; refine HWh.out.mono ?_; rintro e w3 ⟨rfl, rfl⟩)
          exact HRes.out
      | false =>
        have HWh := hid hwh
        by_cases hlt : vs.length < N
        · have hlt' : (vs.length : Int) < (N : Int) := by omega
          have hP := HCl.out (l, false) wr hT hC
          have hI := HI.out
          rw [iterS_step hlt rfl] at hI
          generalize numS (l, false) wd = B at *
          obtain ⟨v, s'⟩ := B
          simp only at hP hI
          have HP := hid hP
          have HI2 := hid hI
          have HU := hid hU
          have HC := hid hC
          have hvl : vs.length ≤ 65535 := by omega
          clear hP hI HI hU hC hT hwh
          go_wp2_with (first
            | (go_at_call 65; refine HWh.out.mono ?_; rintro e w3 ⟨rfl, rfl⟩)
            | (go_at_call 38; refine HP.out.mono ?_; rintro e w3 ⟨rfl, t3, c3⟩
               have hsep : ∀ x, ao = some x → x.block ∉ [g] := fun x hx => by { have := (HU.out.block x hx).1; simp; omega }
               have U3 := hid (HU.out.keep c3 hsep))
            | (at_builtin; refine wp_appU rfl _ _ rfl w ao vs.length c vs rfl (U3.out.keep ((Chg.refl w3 []).alloc _) (by simp)) ((HC.out.trans c3 (by simp)).alloc _).size v w3.heap.size rfl (by simp [World.cell?_alloc_at]) (by omega) ?_; intro ao4 c4 w4 S4 hU4 hc4 hS4 hz4))
          have hS4w : ∀ k, k ∈ S4 → w.heap.size ≤ k := fun k hk => by
            obtain ⟨x, h1, rfl⟩ := hS4 k hk
            exact (HU.out.block x h1).1
          have hgh := HGH.out
          go_roundg (N - (vs ++ [v]).length)
          case measure => simp; omega
          case rel =>
            have hq4 : g ∉ S4 := fun hm => by have := hS4w _ hm; omega
            have hr4 : r ∉ S4 := fun hm => by have := hS4w _ hm; omega
            have t4 := (t3.keep ((Chg.refl w3 []).alloc _) (by simp) (by simp)).keep hc4 hq4 hr4
            refine ⟨vs ++ [v], ao4, c4, s', rfl, by simp, by simp; omega, by simpa using hU4, t4, ?_, HI2⟩
            exact (((HC.out.trans c3 (by simp)).alloc _).trans hc4 (fun k hk hlt => by have := hS4w k hk; omega))
        · have hlt' : ¬ ((vs.length : Int) < (N : Int)) := by omega
          have hI := HI.out
          rw [iterS_full (by omega)] at hI
          have hres := (HPost.out ao c wr (by rw [← hI]; exact hU) (by rw [← hI]; exact hT) hC).2 (by rw [← hI])
          rw [← hI] at hres
          have HRes := hid hres
          clear hres hU hT hC HI hI hwh HGH
          go_wp2_with (go_at_call 65; refine HWh.out.mono ?_; rintro e w3 ⟨rfl, rfl⟩)
          exact HRes.out

set_option maxRecDepth 100000 in
set_option maxHeartbeats 2000000 in
theorem prow48 (g r : Nat) (s : St) (most : Int) (w : World) (h : Tp w g r s) (hm : most ≤ 9223372036854775807) :
    Calls Try.prog 37 #[.pointer (some ⟨g, 0, none⟩), .int .i64 most, .func (.func 48) #[] #[]] w (PRow w g r (rowS s most 1).1 (rowS s most 1).2) := by
  have hCl : ∀ S W, Tp W g r S → Chg w W [g] → Calls Try.prog 48 #[.pointer (some ⟨g, 0, none⟩)] W (TpTo W g r (.int .u64 (numS S 1).1) (numS S 1).2) := fun S W hW hC => cl48 g r S W hW
  have HCl := hid hCl
  clear hCl
  by_cases hm0 : most < 0
  · rw [show rowS s most 1 = ([], (s.1, true)) from by rw [rowS, if_pos hm0]]
    have HT := hid (tear_any g r s w h)
    clear h HCl
    go_enter Try.func37, Try.ntmps37
    go_wp2_with (go_at_call 51; refine HT.out.mono ?_; rintro e w2 ⟨rfl, h1, h2⟩)
    go_ret
    exact ⟨none, 0, rfl, Uw.nil _ _, h1, h2⟩
  · obtain ⟨m, rfl⟩ := Int.eq_ofNat_of_zero_le (Int.not_lt.1 hm0)
    have hR : rowS s m 1 = if (iterS 1 (belowS s 2 m).1 [] (belowS s 2 m).2).2.2 then ([], (iterS 1 (belowS s 2 m).1 [] (belowS s 2 m).2).2) else iterS 1 (belowS s 2 m).1 [] (belowS s 2 m).2 := by
      rw [rowS, if_neg hm0, Int.toNat_natCast]
    rw [hR]
    have hB := below_any g r s 2 m w h (by omega)
    have hN := below2_lt s m
    generalize belowS s 2 m = B at *
    obtain ⟨N, s1⟩ := B
    simp only at hB hN ⊢
    generalize hRR : iterS 1 N [] s1 = RR at *
    have HRR := hid hRR
    have HB := hid hB
    have hN' : (N : Int) ≤ 65535 := by omega
    obtain ⟨hqw, hrw, _⟩ := h.lt
    clear hB h hR hRR
    have hpost : ∀ (ao : Option Addr) (c : Nat) (w' : World), Uw w w' ao RR.1.length c RR.1 → Tp w' g r RR.2 → Chg w w' [g] →
        (RR.2.2 = true → PRow w g r (if RR.2.2 = true then ([], RR.2) else RR).1 (if RR.2.2 = true then ([], RR.2) else RR).2 (.returned (.slice none 0 0)) w') ∧
        (RR.2.2 = false → PRow w g r (if RR.2.2 = true then ([], RR.2) else RR).1 (if RR.2.2 = true then ([], RR.2) else RR).2 (.returned (.slice ao RR.1.length c)) w') := fun ao c w' h1 h2 h3 =>
      ⟨fun ht => by rw [if_pos ht]; exact ⟨none, 0, rfl, Uw.nil _ _, h2, h3⟩, fun ht => by rw [if_neg (by simp [ht])]; exact ⟨ao, c, rfl, h1, h2, h3⟩⟩
    have HPost := hid hpost
    clear hpost
    generalize hPP : PRow w g r (if RR.2.2 = true then ([], RR.2) else RR).1 (if RR.2.2 = true then ([], RR.2) else RR).2 = PP at *
    clear hPP
    go_enter Try.func37, Try.ntmps37
    go_wp2_with (go_at_call 46; refine HB.out.mono ?_; rintro e w2 ⟨rfl, t2, c2⟩)
    go_loopg [8] N (fun gh ls wx => ∃ (vs : List Nat) (ao : Option Addr) (c : Nat) (s : St), gh = N - vs.length ∧ ls = .slice ao vs.length c ∧ vs.length ≤ N ∧ Uw w wx ao vs.length c vs ∧ Tp wx g r s ∧ Chg w wx [g] ∧ Hid (iterS 1 (N - vs.length) vs s = RR))
    case atStart => exact ⟨[], none, 0, s1, rfl, rfl, by simp, Uw.nil _ _, t2, c2, HRR⟩
    case round =>
      clear t2 c2 HRR HB
      obtain ⟨vs, ao, c, s, hgh, rfl, hvN, hU, hT, hC, HI⟩ := hrel
      have HGH := hid hgh
      have hvN' : (vs.length : Int) ≤ (N : Int) := by omega
      have hwh := whole_tp g r s wr hT
      obtain ⟨l, t⟩ := s
      simp only at hwh
      clear hgh
      cases t with
      | true =>
        have hI := HI.out
        rw [iterS_torn rfl] at hI
        have hres := (HPost.out ao c wr (by rw [← hI]; exact hU) (by rw [← hI]; exact hT) hC).1 (by rw [← hI])
        have HRes := hid hres
        have HWh := hid hwh
        clear hres hU hT hC HI hI hwh HGH
        by_cases hlt : vs.length < N
        · have hlt' : (vs.length : Int) < (N : Int) := by omega
          go_wp2_with (go_at_call 65; refine HWh.out.mono ?_; rintro e w3 ⟨rfl, rfl⟩)
          exact HRes.out
        · have hlt' : ¬ ((vs.length : Int) < (N : Int)) := by omega
          go_wp2_with (go_at_call 65; refine HWh.out.mono ?_; rintro e w3 ⟨rfl, rfl⟩)
          exact HRes.out
      | false =>
        have HWh := hid hwh
        by_cases hlt : vs.length < N
        · have hlt' : (vs.length : Int) < (N : Int) := by omega
          have hP := HCl.out (l, false) wr hT hC
          have hI := HI.out
          rw [iterS_step hlt rfl] at hI
          generalize numS (l, false) 1 = B at *
          obtain ⟨v, s'⟩ := B
          simp only at hP hI
          have HP := hid hP
          have HI2 := hid hI
          have HU := hid hU
          have HC := hid hC
          have hvl : vs.length ≤ 65535 := by omega
          clear hP hI HI hU hC hT hwh
          go_wp2_with (first
            | (go_at_call 65; refine HWh.out.mono ?_; rintro e w3 ⟨rfl, rfl⟩)
            | (go_at_call 48; refine HP.out.mono ?_; rintro e w3 ⟨rfl, t3, c3⟩
               have hsep : ∀ x, ao = some x → x.block ∉ [g] := fun x hx => by { have := (HU.out.block x hx).1; simp; omega }
               have U3 := hid (HU.out.keep c3 hsep))
            | (at_builtin; refine wp_appU rfl _ _ rfl w ao vs.length c vs rfl (U3.out.keep ((Chg.refl w3 []).alloc _) (by simp)) ((HC.out.trans c3 (by simp)).alloc _).size v w3.heap.size rfl (by simp [World.cell?_alloc_at]) (by omega) ?_; intro ao4 c4 w4 S4 hU4 hc4 hS4 hz4))
          have hS4w : ∀ k, k ∈ S4 → w.heap.size ≤ k := fun k hk => by
            obtain ⟨x, h1, rfl⟩ := hS4 k hk
            exact (HU.out.block x h1).1
          have hgh := HGH.out
          go_roundg (N - (vs ++ [v]).length)
          case measure => simp; omega
          case rel =>
            have hq4 : g ∉ S4 := fun hm => by have := hS4w _ hm; omega
            have hr4 : r ∉ S4 := fun hm => by have := hS4w _ hm; omega
            have t4 := (t3.keep ((Chg.refl w3 []).alloc _) (by simp) (by simp)).keep hc4 hq4 hr4
            refine ⟨vs ++ [v], ao4, c4, s', rfl, by simp, by simp; omega, by simpa using hU4, t4, ?_, HI2⟩
            exact (((HC.out.trans c3 (by simp)).alloc _).trans hc4 (fun k hk hlt => by have := hS4w k hk; omega))
        · have hlt' : ¬ ((vs.length : Int) < (N : Int)) := by omega
          have hI := HI.out
          rw [iterS_full (by omega)] at hI
          have hres := (HPost.out ao c wr (by rw [← hI]; exact hU) (by rw [← hI]; exact hT) hC).2 (by rw [← hI])
          rw [← hI] at hres
          have HRes := hid hres
          clear hres hU hT hC HI hI hwh HGH
          go_wp2_with (go_at_call 65; refine HWh.out.mono ?_; rintro e w3 ⟨rfl, rfl⟩)
          exact HRes.out
end Go.Proofs.Ytabdpebokpjljaa
