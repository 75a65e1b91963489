/- Walks: Row of numbers, of the reference's tape. -/
import Derived.Test.YtabdpebokpjljaaV1
namespace Go.Proofs.Ytabdpebokpjljaa
open Go.RowKit

/-- What the reference's Row leaves. -/
def RRow (W : World) (q rq : Nat) (vs : List Nat) (s : St) (e : Ending) (w' : World) : Prop :=
  ∃ ao c, e = .returned (.slice ao vs.length c) ∧ Uw W w' ao vs.length c vs ∧ Tq w' q rq s ∧ Chg W w' [q]

theorem numS_len2 (s : St) (wd : Int) : (numS s wd).2.1.length ≤ s.1.length := by
  unfold numS; split <;> simp
theorem belowS_len2 (s : St) (wd : Int) (m : Nat) : (belowS s wd m).2.1.length ≤ s.1.length := by
  unfold belowS; split <;> simp

set_option maxRecDepth 100000 in
set_option maxHeartbeats 2000000 in
theorem rrow_any (q rq : Nat) (s : St) (most wd : Int) (w : World) (h : Tq w q rq s) (hl : s.1.length ≤ 1000000) (hm : most ≤ 9223372036854775807) :
    Calls Try.prog 40 #[.pointer (some ⟨q, 0, none⟩), .int .i64 most, .int .i64 wd] w (RRow w q rq (rowS s most wd).1 (rowS s most wd).2) := by
  by_cases hm0 : most < 0
  · rw [show rowS s most wd = ([], (s.1, true)) from by rw [rowS, if_pos hm0]]
    obtain ⟨o, c, hh⟩ := h
    have c1 := hh.c1
    have f1 := hh.f 1
    have H3 := hid (hh.set1 true)
    clear hh
    go_enter Try.func40, Try.ntmps40
    go_wp2
    go_ret
    exact ⟨none, 0, rfl, Uw.nil _ _, ⟨o, c, H3.out⟩, set_chg _ _ _ _⟩
  · obtain ⟨m, rfl⟩ := Int.eq_ofNat_of_zero_le (Int.not_lt.1 hm0)
    have hR : rowS s m wd = if (iterS wd (belowS s 2 m).1 [] (belowS s 2 m).2).2.2 then ([], (iterS wd (belowS s 2 m).1 [] (belowS s 2 m).2).2) else iterS wd (belowS s 2 m).1 [] (belowS s 2 m).2 := by
      rw [rowS, if_neg hm0, Int.toNat_natCast]
    rw [hR]
    have hB := rbelow_any q rq s 2 m w h hl (by omega)
    have hN := below2_lt s m
    have hL := belowS_len2 s 2 m
    generalize belowS s 2 m = B at *
    obtain ⟨N, s1⟩ := B
    simp only at hB hN hL ⊢
    generalize hRR : iterS wd N [] s1 = RR at *
    have HRR := hid hRR
    have HB := hid hB
    have hs1 : s1.1.length ≤ 1000000 := by omega
    have hN' : (N : Int) ≤ 65535 := by omega
    obtain ⟨hqw, hrw, _⟩ := h.lt
    clear hB h hR hRR hL hl
    have hpost : ∀ (ao : Option Addr) (c : Nat) (w' : World), Uw w w' ao RR.1.length c RR.1 → Tq w' q rq RR.2 → Chg w w' [q] →
        (RR.2.2 = true → RRow w q rq (if RR.2.2 = true then ([], RR.2) else RR).1 (if RR.2.2 = true then ([], RR.2) else RR).2 (.returned (.slice none 0 0)) w') ∧
        (RR.2.2 = false → RRow w q rq (if RR.2.2 = true then ([], RR.2) else RR).1 (if RR.2.2 = true then ([], RR.2) else RR).2 (.returned (.slice ao RR.1.length c)) w') := fun ao c w' h1 h2 h3 =>
      ⟨fun ht => by rw [if_pos ht]; exact ⟨none, 0, rfl, Uw.nil _ _, h2, h3⟩, fun ht => by rw [if_neg (by simp [ht])]; exact ⟨ao, c, rfl, h1, h2, h3⟩⟩
    have HPost := hid hpost
    clear hpost
    generalize hPP : RRow w q rq (if RR.2.2 = true then ([], RR.2) else RR).1 (if RR.2.2 = true then ([], RR.2) else RR).2 = PP at *
    clear hPP
    go_enter Try.func40, Try.ntmps40
    go_wp2_with (go_at_call 68; refine HB.out.mono ?_; rintro e w2 ⟨rfl, t2, c2⟩)
    go_loopw [8, 9] (fun ls is wx => ∃ (vs : List Nat) (ao : Option Addr) (c : Nat) (s : St), ls = .slice ao vs.length c ∧ is = .int .i64 vs.length ∧ vs.length ≤ N ∧ Uw w wx ao vs.length c vs ∧ Tq wx q rq s ∧ Chg w wx [q] ∧ s.1.length ≤ 1000000 ∧ Hid (iterS wd (N - vs.length) vs s = RR)) (fun _ is _ => N - (intOf is).toNat)
    case atStart => exact ⟨[], none, 0, s1, rfl, rfl, by simp, Uw.nil _ _, t2, c2, hs1, HRR⟩
    case round =>
      clear t2 c2 hs1 HRR HB
      obtain ⟨vs, ao, c, s, rfl, rfl, hvN, hU, hT, hC, hsl, HI⟩ := hrel
      have hvN' : (vs.length : Int) ≤ (N : Int) := by omega
      obtain ⟨o, d, hh⟩ := id hT
      have e1 := hh.c1
      clear hh
      obtain ⟨l, t⟩ := s
      simp only at e1 hsl
      cases t with
      | true =>
        have hI := HI.out
        rw [iterS_torn rfl] at hI
        have hres := (HPost.out ao c wr (by rw [← hI]; exact hU) (by rw [← hI]; exact hT) hC).1 (by rw [← hI])
        have HRes := hid hres
        clear hres hU hT hC HI hI
        by_cases hlt : vs.length < N
        · have hlt' : (vs.length : Int) < (N : Int) := by omega
          go_wp2
          exact HRes.out
        · have hlt' : ¬ ((vs.length : Int) < (N : Int)) := by omega
          go_wp2
          exact HRes.out
      | false =>
        by_cases hlt : vs.length < N
        · have hlt' : (vs.length : Int) < (N : Int) := by omega
          have hP := rn_any q rq (l, false) wd wr hT hsl
          have hI := HI.out
          rw [iterS_step hlt rfl] at hI
          have hnl := numS_len2 (l, false) wd
          generalize numS (l, false) wd = B at *
          obtain ⟨v, s'⟩ := B
          simp only at hP hI hnl
          have HP := hid hP
          have HI2 := hid hI
          have HU := hid hU
          have HC := hid hC
          have hvl : vs.length ≤ 65535 := by omega
          clear hP hI HI hU hC hT
          go_wp2_with (first
            | (go_at_call 69; refine HP.out.mono ?_; rintro e w3 ⟨rfl, t3, c3⟩
               have hsep : ∀ x, ao = some x → x.block ∉ [q] := fun x hx => by { have := (HU.out.block x hx).1; simp; omega }
               have U3 := hid (HU.out.keep c3 hsep))
            | (at_builtin; refine wp_appU rfl _ _ rfl w ao vs.length c vs rfl (U3.out.keep ((Chg.refl w3 []).alloc _) (by simp)) ((HC.out.trans c3 (by simp)).alloc _).size v w3.heap.size rfl (by simp [World.cell?_alloc_at]) (by omega) ?_; intro ao4 c4 w4 S4 hU4 hc4 hS4 hz4))
          have hS4w : ∀ k, k ∈ S4 → w.heap.size ≤ k := fun k hk => by
            obtain ⟨x, h1, rfl⟩ := hS4 k hk
            exact (HU.out.block x h1).1
          go_roundw
          case rel =>
            have hq4 : q ∉ S4 := fun hm => by have := hS4w _ hm; omega
            have hr4 : rq ∉ S4 := fun hm => by have := hS4w _ hm; omega
            have t4 := (t3.keep ((Chg.refl w3 []).alloc _) (by simp) (by simp)).keep hc4 hq4 hr4
            refine ⟨vs ++ [v], ao4, c4, s', by simp, by simp, by simp; omega, by simpa using hU4, t4, ?_, by omega, HI2⟩
            exact (((HC.out.trans c3 (by simp)).alloc _).trans hc4 (fun k hk hlt => by have := hS4w k hk; omega))
          case measure => simp [intOf]; omega
        · have hlt' : ¬ ((vs.length : Int) < (N : Int)) := by omega
          have hI := HI.out
          rw [iterS_full (by omega)] at hI
          have hres := (HPost.out ao c wr (by rw [← hI]; exact hU) (by rw [← hI]; exact hT) hC).2 (by rw [← hI])
          rw [← hI] at hres
          have HRes := hid hres
          clear hres hU hT hC HI hI
          go_wp2
          exact HRes.out
end Go.Proofs.Ytabdpebokpjljaa
