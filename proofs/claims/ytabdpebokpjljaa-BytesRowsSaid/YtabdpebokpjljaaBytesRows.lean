/- BytesRows: for every numbers, bytes and bound the law answers true, and nothing that was there has turned. No condition. -/
import Derived.Test.YtabdpebokpjljaaV4
import Derived.Test.YtabdpebokpjljaaG3
import Derived.Deep.DeepCutAuto
import Derived.Deep.Cut
import Derived.Deep.CutRange
import Derived.BigQuiet
namespace Go.Proofs.Ytabdpebokpjljaa
open Go.RowKit

theorem Uw.max {w0 w : World} {ao : Option Addr} {n c : Nat} {l : List Nat} (h : Uw w0 w ao n c l) : n ≤ 9223372036854775807 := by
  rcases h with ⟨_, rfl, _, _⟩ | ⟨_, _, _, ⟨_, _, h2, h3, _⟩, _⟩
  · omega
  · unfold maxLen at h3; omega
theorem str_append (a b : List UInt8) : str a ++ str b = str (a ++ b) := by
  apply ByteArray.ext
  simp [str]
set_option maxRecDepth 100000 in
set_option maxHeartbeats 4000000 in
theorem rows_walk {w : World} (lo : Option Addr) (n lc : Nat) (L : List Nat) (s : ByteArray) (x y : Int) (h : AIn (fun k : Nat => [.int .u32 k]) 1 (· < 4294967296) w lo n L ∧ n ≤ lc) (hs : s.size ≤ maxLen)
    (hx : (Lit.int .i64 x).wf = true) (_hy : (Lit.int .i64 y).wf = true) :
    Calls Try.prog 7 #[.slice lo n lc, .string s, .agg #[.int .i64 x, .int .i64 y]] w (Yes w) := by
  unfold maxLen at hs
  have hx2 := hid (wf_i64 hx).2
  obtain ⟨h, hcap⟩ := h
  have hmx := h.max
  have k1 : Chg w (w.alloc (.cells #[.int .i64 x, .int .i64 y] 56)) [] := (Chg.refl w []).alloc _
  have hI := h.keep k1
  have b0 : (w.alloc (.cells #[.int .i64 x, .int .i64 y] 56)).cell? ⟨w.heap.size, 0, none⟩ = some (.int .i64 x) := by simp [World.cell?_alloc_at]
  have b1 : (w.alloc (.cells #[.int .i64 x, .int .i64 y] 56)).cell? ⟨w.heap.size, 1, none⟩ = some (.int .i64 y) := by simp [World.cell?_alloc_at]
  have hbx : w.heap.size < (w.alloc (.cells #[.int .i64 x, .int .i64 y] 56)).heap.size := by simp
  have HIn := hid hI
  have HCut := hid (fun W => cut04 s 1000 W hs (by omega))
  have hS : (cutB s 1000).size ≤ 1000 := by rw [cutB_size]; omega
  have hSl : (cutB s 1000).data.toList.length = (cutB s 1000).size := by rw [Array.length_toList]; rfl
  have HS := hid hS
  have HSl := hid hSl
  have K1 := hid k1
  clear h hS hSl hI hx k1
  generalize cutB s 1000 = S at *
  go_enter Try.func7, Try.ntmps7
  go_upto_region 1 with fail
  generalize w.alloc (.cells #[.int .i64 x, .int .i64 y] 56) = W1 at *
  go_cut [0] (fun v wx => wx = W1 ∧ ∃ N : Nat, v = .slice lo N lc ∧ N ≤ n ∧ N ≤ 300)
  case first =>
    by_cases h3 : 300 < n
    · have h3' : (300 : Int) < (n : Int) := by omega
      go_wp2_with fail
      go_meet
      exact ⟨rfl, 300, rfl, by omega, by omega⟩
    · have h3' : (n : Int) ≤ 300 := by omega
      go_wp2_with fail
      go_meet
      exact ⟨rfl, n, rfl, by omega, by omega⟩
  case rest =>
    obtain ⟨hw, N, rfl, hNn, hN⟩ := hcut
    have hw := hw.symm
    subst hw
    have hI := HIn.out.upto hNn
    have hFl := hid hI.len
    have HI := hid hI
    clear hI HIn
    generalize L.take N = F at *
    have hN' : (N : Int) ≤ 300 := by omega
    have hPut : Calls Try.prog 34 #[.slice (some ⟨W1.heap.size, 0, none⟩) 1 1, .slice lo N lc, .func (.func 35) #[] #[]] (W1.alloc (.cells #[.int .u8 120] 5 (1, 2))) (PutRowTo2 (W1.alloc (.cells #[.int .u8 120] 5 (1, 2))) [120] N F) :=
      (putRow_any _ 1 1 [120] lo N lc F _ (bs_litM W1 [120] (1, 2) (by decide)) (by decide) (HI.out.keep ((Chg.refl W1 []).alloc _)) hN).mono fun _ _ h => h.two
    have HPut := hid hPut
    have hq0 : (enc 2 N).length ≤ 2 := by rw [enc_length]; omega
    have HN2 := hid (fun W => rnum_yes 2 N W (by unfold mayW; omega) (by omega))
    have kA : Chg W1 (W1.alloc (.cells #[.int .u8 120] 5 (1, 2))) [] := (Chg.refl W1 []).alloc _
    have KA := hid kA
    have kc := fun (w : World) (C : Array Value) (n c : Nat) => Lib.run_convert_bytes_const (P := Try.prog) w 27 5 C n c Try.underlying27 Try.underlying5
    clear hPut kA
    go_wp2_with (first
      | (go_at_call 28; refine (HCut.out _).mono ?_; rintro e w1 ⟨rfl, rfl⟩)
      | (go_at_call 34; refine HPut.out.mono ?_; rintro e w2 ⟨bo, bl, bc, ev, rfl, hc2, hd2⟩; have HD := hid hd2; clear hd2)
      | (go_at_call 32; refine (HN2.out _).mono ?_; rintro e w3 ⟨g3, d3, rfl, ho3, hc3, hg3⟩; have hcv := run_str ho3.bs))
    have hC0 : Chg W1 w3 [] := (KA.out.trans hc2 (by simp)).trans hc3 (by simp)
    have HD3 : Hid ((99 ∈ F ∧ bl = 0 ∧ ev = 2) ∨ (99 ∉ F ∧ ev = 0 ∧ bl = (putB [120] N F).length ∧ Bs w3 bo bl bc (putB [120] N F))) := by
      rcases HD.out with h1 | ⟨h1, h2, h3, h4⟩
      · exact .inl h1
      · exact .inr ⟨h1, h2, h3, h4.keep hc3 (by simp)⟩
    have HC0 := hid hC0
    clear hC0 hc2 HD ho3 hc3 hg3 hcv HPut KA kc
    go_loopw [9, 10, 11] (fun ws bs is wx => ∃ (k : Nat) (bd : Bool), ws = .string (str (putB [120] N (F.take k))) ∧ bs = .bool bd ∧ is = .int .i64 k ∧ k ≤ N ∧ Chg w3 wx [] ∧ Hid (bd = true ↔ 99 ∈ F.take k)) (fun _ _ is _ => N - (intOf is).toNat)
    case atStart => exact ⟨0, false, by rw [show ({ data := #[120] } : ByteArray) = str [120] from rfl, str_append]; simp [putB], rfl, rfl, by omega, Chg.refl _ _, hid (by simp)⟩
    case round =>
      obtain ⟨k, bd, rfl, rfl, rfl, hkN, hC, HB⟩ := hrel
      have hkN' : (k : Int) ≤ (N : Int) := by omega
      by_cases hlt : k < N
      · have hlt' : (k : Int) < (N : Int) := by omega
        obtain ⟨b1', o1, v, rfl, hv, hv2, hcell⟩ := HI.out.u32at hlt
        have hv2 : v < 4294967296 := hv2
        have hv' : (v : Int) ≤ 4294967295 := by omega
        have hc := hcell wr (HC0.out.trans hC (by simp))
        have HNum := hid (fun W => rnum_yes 4 v W (by unfold mayW; omega) (by omega))
        have HSt : Hid (str (putB [120] N (F.take k)) ++ str (enc 4 v) = str (putB [120] N (F.take (k + 1)))) := by
          show _ = _
          rw [str_append, putB_succ hv]
        have HB2 : ∀ b2 : Bool, (b2 = true ↔ (bd = true ∨ v = 99)) → Hid (b2 = true ↔ 99 ∈ F.take (k + 1)) := fun b2 h2 => by
          show _ ↔ _
          rw [h2, HB.out, List.take_add_one, hv, List.mem_append]
          simp [eq_comm]
        have hq : (putB [120] N (F.take k)).length + (enc 4 v).length ≤ 5000 := by
          rw [putB_len, enc_length]
          have := List.length_take_le k F
          simp only [List.length_cons, List.length_nil]
          omega
        have HBB := hid HB2
        have HC := hid hC
        clear hcell hv hv2 hC HB HB2
        by_cases h99 : v = 99
        · subst h99
          cases bd
          all_goals
            go_wp2_with (go_at_call 32; refine (HNum.out _).mono ?_; rintro e w4 ⟨g4, d4, rfl, ho4, hc4, hg4⟩; have hcv := run_str ho4.bs)
            go_roundw
            case rel => exact ⟨k + 1, true, by rw [← HSt.out], rfl, by go_num, by omega, HC.out.trans hc4 (by simp), HBB.out true (by simp)⟩
            case measure => simp [intOf]; omega
        · have h99' : ((v : Int) == 99) = false := by simp; omega
          have H99 := hid h99
          clear h99
          cases bd
          · go_wp2_with (go_at_call 32; refine (HNum.out _).mono ?_; rintro e w4 ⟨g4, d4, rfl, ho4, hc4, hg4⟩; have hcv := run_str ho4.bs)
            go_roundw
            case rel => exact ⟨k + 1, false, by rw [← HSt.out], rfl, by go_num, by omega, HC.out.trans hc4 (by simp), HBB.out false (by simp; exact H99.out)⟩
            case measure => simp [intOf]; omega
          · go_wp2_with (go_at_call 32; refine (HNum.out _).mono ?_; rintro e w4 ⟨g4, d4, rfl, ho4, hc4, hg4⟩; have hcv := run_str ho4.bs)
            go_roundw
            case rel => exact ⟨k + 1, true, by rw [← HSt.out], rfl, by go_num, by omega, HC.out.trans hc4 (by simp), HBB.out true (by simp)⟩
            case measure => simp [intOf]; omega
      · obtain rfl : k = N := by omega
        have hlt' : ¬ ((k : Int) < (k : Int)) := by omega
        have htk : F.take k = F := List.take_of_length_le (by have := hFl.out; omega)
        rw [htk] at HB ⊢
        go_upto_region 11 with fail
        go_cut [83] (fun v wx => v = .bool false ∧ wx = wr)
        case first =>
          rcases HD3.out with ⟨h99, rfl, rfl⟩ | ⟨h99, rfl, rfl, hbs⟩
          · obtain rfl : bd = true := HB.out.2 h99
            clear h99
            go_wp2
            go_meet
            exact ⟨rfl, rfl⟩
          · have hbd : bd = false := by
              cases bd
              · rfl
              · exact absurd (HB.out.1 rfl) h99
            subst hbd
            have hcv := run_str (hbs.keep hC (by simp))
            clear h99 hbs
            go_wp2
            go_meet
            exact ⟨rfl, rfl⟩
        case rest =>
          obtain ⟨rfl, hw⟩ := hcut
          have hw := hw.symm
          subst hw
          have k5 : Chg W1 wr [] := HC0.out.trans hC (by simp)
          have K5 := hid k5
          clear k5 hC HC0 HB HD3 htk
          go_upto_region 14 with (first
            | (refine wp_bytes rfl _ rfl S rfl (by have := HS.out; unfold maxLen; omega) ?_; intro c8 w8 hb8 hf8 hc8 hz8)
            | (go_at_call 36; refine (newTape_any _ _ _ _ _ hb8 (by have := HS.out; have := HSl.out; omega)).mono ?_; rintro e w9 ⟨g, r, rfl, ht9, hc9, hg9, hr9⟩))
          have k9 : Chg W1 w9 [] := (K5.out.trans hc8 (by simp)).trans hc9 (by simp)
          have hgx : w.heap.size ≠ g := by have := K5.out.size; have := hc8.size; omega
          have K9 := hid k9
          have HT9 := hid ht9
          have hgW : W1.heap.size ≤ g := by have := K5.out.size; have := hc8.size; omega
          clear hb8 hf8 hc8 hz8 ht9 hc9 hg9 hr9 k9 K5
          go_upto_region 15 with (refine wp_bytes rfl _ rfl S rfl (by have := HS.out; unfold maxLen; omega) ?_; intro c8 w8 hb8 hf8 hc8 hz8)
          have hlt := HT9.out.lt
          have hs9 := K9.out.size
          have hs8 := hc8.size
          have hq : Tq (w8.alloc (.cells #[.slice (some ⟨w9.heap.size, 0, none⟩) S.size c8, .bool false] 63)) w8.heap.size w9.heap.size (S.data.toList, false) := by
            rw [← HSl.out] at hb8 ⊢
            exact ⟨0, c8, heap_alloc_new w8 _, by omega, hb8.alloc _⟩
          have hT : Tp (w8.alloc (.cells #[.slice (some ⟨w9.heap.size, 0, none⟩) S.size c8, .bool false] 63)) g r (S.data.toList, false) :=
            (HT9.out.keep hc8 (by simp) (by simp)).keep ((Chg.refl _ []).alloc _) (by simp) (by simp)
          have k8 : Chg W1 (w8.alloc (.cells #[.slice (some ⟨w9.heap.size, 0, none⟩) S.size c8, .bool false] 63)) [] := (K9.out.trans hc8 (by simp)).alloc _
          have hgq : g ≠ w8.heap.size := by omega
          have hrq : r ≠ w8.heap.size := by omega
          have hgrq : g ≠ w9.heap.size := by omega
          have hqx : w.heap.size ≠ w8.heap.size := by omega
          have hqW : W1.heap.size ≤ w8.heap.size := by omega
          have hq2 : w8.heap.size < (w8.alloc (.cells #[.slice (some ⟨w9.heap.size, 0, none⟩) S.size c8, .bool false] 63)).heap.size := by simp
          clear hb8 hf8 hc8 hz8 K9 HT9 hlt hs9 hs8
          generalize w8.alloc (.cells #[.slice (some ⟨w9.heap.size, 0, none⟩) S.size c8, .bool false] 63) = W2 at *
          generalize w8.heap.size = q at *
          generalize w9.heap.size = rq at *
          have d0 : W2.cell? ⟨w.heap.size, 0, none⟩ = some (.int .i64 x) := by rw [k8.cell hbx (by simp)]; exact b0
          have d1 : W2.cell? ⟨w.heap.size, 1, none⟩ = some (.int .i64 y) := by rw [k8.cell hbx (by simp)]; exact b1
          have hbx2 : w.heap.size < W2.heap.size := Nat.lt_of_lt_of_le hbx k8.size
          have hP1 := prow38 g r w.heap.size y (S.data.toList, false) x W2 hT hx2.out d1 hgx
          have hP2 : ∀ W, Tq W q rq (S.data.toList, false) → Calls Try.prog 40 #[.pointer (some ⟨q, 0, none⟩), .int .i64 x, .int .i64 y] W (RRow W q rq (rowS (S.data.toList, false) x y).1 (rowS (S.data.toList, false) x y).2) :=
            fun W hW => rrow_any q rq (S.data.toList, false) x y W hW (by simp only; have := HS.out; have := HSl.out; omega) hx2.out
          have P1 := hid hP1
          have P2 := hid hP2
          have HQ := hid hq
          have K8 := hid k8
          have hmf : ∀ (fn : Fn) (first cap : Array Value) (w : World), (Instr.makeFunc fn first cap).run Try.prog w = .ok (.func fn first cap) w := fun _ _ _ _ => rfl
          clear hP1 hP2 hq k8 hT b0 b1
          generalize rowS (S.data.toList, false) x y = R at *
          obtain ⟨vs, s'⟩ := R
          simp only at P1 P2
          go_wp2_with (first
            | (go_at_call 37; refine P1.out.mono ?_; rintro e w11 ⟨a1, c1, rfl, u1, t1, k11⟩
               have e0 := (k11.cell (p := ⟨w.heap.size, 0, none⟩) hbx2 (by simp; exact hgx)).trans d0
               have e1 := (k11.cell (p := ⟨w.heap.size, 1, none⟩) hbx2 (by simp; exact hgx)).trans d1)
            | (go_at_call 40; refine (P2.out _ (HQ.out.keep k11 (by simp; exact fun h0 => hgq h0.symm) (by simp; exact fun h0 => hgrq h0.symm))).mono ?_; rintro e w12 ⟨a2, c2, rfl, u2, t2, k12⟩
               have t12 := t1.keep k12 (by simp; exact hgq) (by simp; exact hrq))
            | (go_at_call 41; refine (left_any _ _ _ _ t12).mono ?_; rintro e w13 ⟨rfl, rfl⟩)
            | (go_at_call 42; refine (rleft_any _ _ _ _ t2).mono ?_; rintro e w13 ⟨rfl, rfl⟩)
            | (go_at_call 43; refine (err_any _ _ _ _ t12).mono ?_; rintro e w13 ⟨rfl, rfl⟩)
            | (go_at_call 44; refine (rerr04_any _ _ _ _ t2).mono ?_; rintro e w13 ⟨rfl, rfl⟩))
          have U1 : Uw W2 w12 a1 vs.length c1 vs := u1.keep k12 (fun x hx => by have := (u1.block x hx).1; simp; omega)
          have hvm := u2.max
          have hk12 : Chg w w12 [] := ((K1.out.trans K8.out (by simp)).step k11 (by simp; have := K1.out.size; omega)).step k12 (by simp; have := K1.out.size; omega)
          have HU1 := hid U1
          have HU2 := hid u2
          have HK := hid hk12
          clear U1 u1 u2 hk12 k11 k12 t1 t2 t12 d0 d1 e0 e1 P1 P2 HQ
          go_loopw [16] (fun is wx => ∃ j : Nat, is = .int .i64 j ∧ j ≤ vs.length ∧ Chg w12 wx []) (fun is _ => vs.length - (intOf is).toNat)
          case atStart => exact ⟨0, rfl, by omega, Chg.refl _ _⟩
          case round =>
            obtain ⟨j, rfl, hj, hC⟩ := hrel
            have hj' : (j : Int) ≤ (vs.length : Int) := by omega
            by_cases hjl : j < vs.length
            · have hjl' : (j : Int) < (vs.length : Int) := by omega
              obtain ⟨g1, v, rfl, hv, e1⟩ := (HU1.out.keep hC (by simp)).cellAt hjl
              obtain ⟨g2, v2, rfl, hv2, e2⟩ := (HU2.out.keep hC (by simp)).cellAt hjl
              obtain rfl : v = v2 := by rw [hv] at hv2; exact Option.some.inj hv2
              have HC := hid hC
              clear hv hv2 hC
              go_wp2
              go_quiet (fail)
              go_wp2
              go_roundw
              case rel => exact ⟨j + 1, by go_num, by omega, ⟨HC.out.os, HC.out.tape, HC.out.output, HC.out.size, HC.out.block⟩⟩
              case measure => simp [intOf]; omega
            · have hjl' : ¬ ((j : Int) < (vs.length : Int)) := by omega
              have HC := hid hC
              clear hC
              go_wp2_with (go_at_call 33; refine (works04 _).mono ?_; rintro e w15 ⟨rfl, hbel⟩)
              go_ret
              exact ⟨rfl, (HK.out.trans HC.out (by simp)).then_below hbel⟩
end Go.Proofs.Ytabdpebokpjljaa
