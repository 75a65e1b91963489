/- Walks: chapter 4's step: what is asked of both tapes is answered alike. -/
import Derived.Test.YtabdpebokpjljaaR5
import Derived.Deep.RegionHeld3
import Derived.Deep.DeepCutAuto
import Derived.Deep.Cut
namespace Go.Proofs.Ytabdpebokpjljaa
open Go.RowKit

/-- The program's tape and the reference's, in one state, apart from each other. -/
structure TT (W : World) (g r q rq : Nat) (s : St) : Prop where
  tp : Tp W g r s
  tq : Tq W q rq s
  n1 : g ≠ q
  n2 : g ≠ rq
  n3 : r ≠ q

theorem TT.keep {W W' : World} {g r q rq : Nat} {s : St} {S : List Nat} (h : TT W g r q rq s) (hc : Chg W W' S) (h1 : g ∉ S) (h2 : r ∉ S) (h3 : q ∉ S) (h4 : rq ∉ S) : TT W' g r q rq s :=
  ⟨h.tp.keep hc h1 h2, h.tq.keep hc h3 h4, h.n1, h.n2, h.n3⟩

/-- What step leaves. -/
def StepTo (W : World) (g r q rq : Nat) (s : St) (e : Ending) (w' : World) : Prop :=
  e = .returned (.bool true) ∧ ∃ s', TT w' g r q rq s' ∧ Chg W w' [g, q] ∧ s'.1.length ≤ s.1.length

theorem step_end {w W1 w2 w3 : World} {g r q rq : Nat} {s s' : St} (h : TT W1 g r q rq s) (k1 : Chg w W1 []) (h2 : Tp w2 g r s') (c2 : Chg W1 w2 [g]) (h3 : Tq w3 q rq s') (c3 : Chg w2 w3 [q]) :
    TT w3 g r q rq s' ∧ Chg w w3 [g, q] := by
  have hq := h.tq.lt
  have hp := h2.lt
  refine ⟨⟨h2.keep c3 (by simp; exact h.n1) (by simp; exact h.n3), h3, h.n1, h.n2, h.n3⟩, ?_⟩
  exact ((k1.mono (by simp)).trans c2 (by simp +contextual)).trans c3 (by simp +contextual)

theorem numS_len (s : St) (wd : Int) : (numS s wd).2.1.length ≤ s.1.length := by
  unfold numS; split <;> simp
theorem belowS_len (s : St) (wd : Int) (m : Nat) : (belowS s wd m).2.1.length ≤ s.1.length := by
  unfold belowS; split <;> simp
theorem textS_len (s : St) (m : Int) : (textS s m).2.1.length ≤ s.1.length := by
  unfold textS; split <;> simp
theorem bytesS_len (s : St) (n : Int) : (bytesS s n).2.1.length ≤ s.1.length := by
  unfold bytesS; split <;> simp
theorem endS_len (s : St) : (endS s).2.1.length ≤ s.1.length := by
  unfold endS; split <;> simp

set_option maxRecDepth 100000 in
set_option maxHeartbeats 2000000 in
theorem step0 (g r q rq : Nat) (s : St) (x n : Int) (m : Nat) (w : World) (h : TT w g r q rq s) (hl : s.1.length ≤ 1000000) (hx : x.tmod 6 = 0) :
    Calls Try.prog 57 #[.pointer (some ⟨g, 0, none⟩), .pointer (some ⟨q, 0, none⟩), .agg #[.int .i64 x, .int .i64 n, .int .u64 m]] w (StepTo w g r q rq s) := by
  have hg := h.tp.lt
  have hq := h.tq.lt
  have k1 : Chg w (w.alloc (.cells #[.int .i64 x, .int .i64 n, .int .u64 m] 95)) [] := (Chg.refl w []).alloc _
  have h1 := h.keep k1 (by simp) (by simp) (by simp) (by simp)
  have hbx : w.heap.size < (w.alloc (.cells #[.int .i64 x, .int .i64 n, .int .u64 m] 95)).heap.size := by simp
  have b1 : (w.alloc (.cells #[.int .i64 x, .int .i64 n, .int .u64 m] 95)).cell? ⟨w.heap.size, 1, none⟩ = some (.int .i64 n) := by simp [World.cell?_alloc_at]
  have hP1 : ∀ W, Tp W g r s → Calls Try.prog 39 #[.pointer (some ⟨g, 0, none⟩), .int .i64 n] W (TpTo W g r (.int .u64 (numS s n).1) (numS s n).2) := fun W hW => num_any g r s n W hW
  have hP2 : ∀ W, Tq W q rq s → Calls Try.prog 69 #[.pointer (some ⟨q, 0, none⟩), .int .i64 n] W (TqTo W q rq (.int .u64 (numS s n).1) (numS s n).2) := fun W hW => rn_any q rq s n W hW hl
  have hL := numS_len s n
  have P1 := hid hP1
  have P2 := hid hP2
  generalize numS s n = R at *
  obtain ⟨v, s'⟩ := R
  simp only at P1 P2 hL
  have H := hid h1
  have X0 : (x.tmod 6 == 0) = true := by simp [hx]
  have hgb : w.heap.size ≠ g := by omega
  have hqb : w.heap.size ≠ q := by omega
  clear hP1 hP2 h h1 hx
  go_enter Try.func57, Try.ntmps57
  go_upto_region 3 with fail
  generalize w.alloc (.cells #[.int .i64 x, .int .i64 n, .int .u64 m] 95) = W1 at *
  go_region_held3 (fun W => W.cell? ⟨w.heap.size, 1, none⟩ = some (.int .i64 n))
    (first
      | go_keep
      | exact (c2.cell (p := ⟨w.heap.size, 1, none⟩) hbx (by simp; exact hgb)).trans b1
      | exact (((c2.mono (T := [g, q]) (by simp +contextual)).trans c3 (by simp +contextual)).cell (p := ⟨w.heap.size, 1, none⟩) hbx (by simp; exact ⟨hgb, hqb⟩)).trans b1)
    (first
      | (go_at_call 39; refine (P1.out _ (H.out.tp.keep (Chg.refl _ []).drew (by simp) (by simp))).mono ?_; rintro e w2 ⟨rfl, t2, c2⟩)
      | (go_at_call 69; refine (P2.out _ ((H.out.tq.keep (Chg.refl _ []).drew (by simp) (by simp)).keep c2 (by simp; exact fun h0 => H.out.n1 h0.symm) (by simp; exact fun h0 => H.out.n2 h0.symm))).mono ?_; rintro e w3 ⟨rfl, t3, c3⟩))
  go_wp2
  go_ret
  obtain ⟨r1, r2⟩ := step_end (H.out.keep (Chg.refl _ []).drew (by simp) (by simp) (by simp) (by simp)) k1.drew t2 c2 t3 c3
  exact ⟨rfl, s', r1, r2, hL⟩

set_option maxRecDepth 100000 in
set_option maxHeartbeats 2000000 in
theorem step1 (g r q rq : Nat) (s : St) (x n : Int) (m : Nat) (w : World) (h : TT w g r q rq s) (hl : s.1.length ≤ 1000000) (hm : m < 18446744073709551616) (hx : x.tmod 6 = 1) :
    Calls Try.prog 57 #[.pointer (some ⟨g, 0, none⟩), .pointer (some ⟨q, 0, none⟩), .agg #[.int .i64 x, .int .i64 n, .int .u64 m]] w (StepTo w g r q rq s) := by
  have hg := h.tp.lt
  have hq := h.tq.lt
  have k1 : Chg w (w.alloc (.cells #[.int .i64 x, .int .i64 n, .int .u64 m] 95)) [] := (Chg.refl w []).alloc _
  have h1 := h.keep k1 (by simp) (by simp) (by simp) (by simp)
  have hbx : w.heap.size < (w.alloc (.cells #[.int .i64 x, .int .i64 n, .int .u64 m] 95)).heap.size := by simp
  have b1 : (w.alloc (.cells #[.int .i64 x, .int .i64 n, .int .u64 m] 95)).cell? ⟨w.heap.size, 1, none⟩ = some (.int .i64 n) := by simp [World.cell?_alloc_at]
  have b2 : (w.alloc (.cells #[.int .i64 x, .int .i64 n, .int .u64 m] 95)).cell? ⟨w.heap.size, 2, none⟩ = some (.int .u64 m) := by simp [World.cell?_alloc_at]
  have hP1 : ∀ W, Tp W g r s → Calls Try.prog 46 #[.pointer (some ⟨g, 0, none⟩), .int .i64 n, .int .u64 m] W (TpTo W g r (.int .i64 (belowS s n m).1) (belowS s n m).2) := fun W hW => below_any g r s n m W hW hm
  have hP2 : ∀ W, Tq W q rq s → Calls Try.prog 68 #[.pointer (some ⟨q, 0, none⟩), .int .i64 n, .int .u64 m] W (TqTo W q rq (.int .i64 (belowS s n m).1) (belowS s n m).2) := fun W hW => rbelow_any q rq s n m W hW hl hm
  have hL := belowS_len s n m
  have P1 := hid hP1
  have P2 := hid hP2
  generalize belowS s n m = R at *
  obtain ⟨v, s'⟩ := R
  simp only at P1 P2 hL
  have H := hid h1
  have X0 : (x.tmod 6 == 0) = false := by simp [hx]
  have X1 : (x.tmod 6 == 1) = true := by simp [hx]
  have hgb : w.heap.size ≠ g := by omega
  have hqb : w.heap.size ≠ q := by omega
  clear hP1 hP2 h h1 hx hm
  go_enter Try.func57, Try.ntmps57
  go_upto_region 6 with fail
  generalize w.alloc (.cells #[.int .i64 x, .int .i64 n, .int .u64 m] 95) = W1 at *
  go_region_held3 (fun W => W.cell? ⟨w.heap.size, 1, none⟩ = some (.int .i64 n) ∧ W.cell? ⟨w.heap.size, 2, none⟩ = some (.int .u64 m))
    (first
      | go_keep
      | exact ⟨(c2.cell (p := ⟨w.heap.size, 1, none⟩) hbx (by simp; exact hgb)).trans b1, (c2.cell (p := ⟨w.heap.size, 2, none⟩) hbx (by simp; exact hgb)).trans b2⟩
      | exact ⟨(((c2.mono (T := [g, q]) (by simp +contextual)).trans c3 (by simp +contextual)).cell (p := ⟨w.heap.size, 1, none⟩) hbx (by simp; exact ⟨hgb, hqb⟩)).trans b1, (((c2.mono (T := [g, q]) (by simp +contextual)).trans c3 (by simp +contextual)).cell (p := ⟨w.heap.size, 2, none⟩) hbx (by simp; exact ⟨hgb, hqb⟩)).trans b2⟩
      | (go_split_ands; first | exact ⟨(c2.cell (p := ⟨w.heap.size, 1, none⟩) hbx (by simp; exact hgb)).trans b1, (c2.cell (p := ⟨w.heap.size, 2, none⟩) hbx (by simp; exact hgb)).trans b2⟩ | exact ⟨(((c2.mono (T := [g, q]) (by simp +contextual)).trans c3 (by simp +contextual)).cell (p := ⟨w.heap.size, 1, none⟩) hbx (by simp; exact ⟨hgb, hqb⟩)).trans b1, (((c2.mono (T := [g, q]) (by simp +contextual)).trans c3 (by simp +contextual)).cell (p := ⟨w.heap.size, 2, none⟩) hbx (by simp; exact ⟨hgb, hqb⟩)).trans b2⟩))
    (first
      | (go_at_call 46; refine (P1.out _ (H.out.tp.keep (Chg.refl _ []).drew (by simp) (by simp))).mono ?_; rintro e w2 ⟨rfl, t2, c2⟩)
      | (go_at_call 68; refine (P2.out _ ((H.out.tq.keep (Chg.refl _ []).drew (by simp) (by simp)).keep c2 (by simp; exact fun h0 => H.out.n1 h0.symm) (by simp; exact fun h0 => H.out.n2 h0.symm))).mono ?_; rintro e w3 ⟨rfl, t3, c3⟩))
  go_wp2
  go_ret
  obtain ⟨r1, r2⟩ := step_end (H.out.keep (Chg.refl _ []).drew (by simp) (by simp) (by simp) (by simp)) k1.drew t2 c2 t3 c3
  exact ⟨rfl, s', r1, r2, hL⟩

set_option maxRecDepth 100000 in
set_option maxHeartbeats 2000000 in
theorem step2 (g r q rq : Nat) (s : St) (x n : Int) (m : Nat) (w : World) (h : TT w g r q rq s) (hl : s.1.length ≤ 1000000) (hn : n ≤ 9223372036854775807) (hx : x.tmod 6 = 2) :
    Calls Try.prog 57 #[.pointer (some ⟨g, 0, none⟩), .pointer (some ⟨q, 0, none⟩), .agg #[.int .i64 x, .int .i64 n, .int .u64 m]] w (StepTo w g r q rq s) := by
  have hg := h.tp.lt
  have hq := h.tq.lt
  have k1 : Chg w (w.alloc (.cells #[.int .i64 x, .int .i64 n, .int .u64 m] 95)) [] := (Chg.refl w []).alloc _
  have h1 := h.keep k1 (by simp) (by simp) (by simp) (by simp)
  have hbx : w.heap.size < (w.alloc (.cells #[.int .i64 x, .int .i64 n, .int .u64 m] 95)).heap.size := by simp
  have b1 : (w.alloc (.cells #[.int .i64 x, .int .i64 n, .int .u64 m] 95)).cell? ⟨w.heap.size, 1, none⟩ = some (.int .i64 n) := by simp [World.cell?_alloc_at]
  have hP1 : ∀ W, Tp W g r s → Calls Try.prog 45 #[.pointer (some ⟨g, 0, none⟩), .int .i64 n] W (TpTo W g r (.string (str (textS s n).1)) (textS s n).2) := fun W hW => text_any g r s n W hW hn
  have hP2 : ∀ W, Tq W q rq s → Calls Try.prog 73 #[.pointer (some ⟨q, 0, none⟩), .int .i64 n] W (TqTo W q rq (.string (str (textS s n).1)) (textS s n).2) := fun W hW => rtxt_any q rq s n W hW hl hn
  have hL := textS_len s n
  have P1 := hid hP1
  have P2 := hid hP2
  generalize textS s n = R at *
  obtain ⟨v, s'⟩ := R
  simp only at P1 P2 hL
  have H := hid h1
  have X0 : (x.tmod 6 == 0) = false := by simp [hx]
  have X1 : (x.tmod 6 == 1) = false := by simp [hx]
  have X2 : (x.tmod 6 == 2) = true := by simp [hx]
  have hgb : w.heap.size ≠ g := by omega
  have hqb : w.heap.size ≠ q := by omega
  clear hP1 hP2 h h1 hx hn
  go_enter Try.func57, Try.ntmps57
  go_upto_region 9 with fail
  generalize w.alloc (.cells #[.int .i64 x, .int .i64 n, .int .u64 m] 95) = W1 at *
  go_region_held3 (fun W => W.cell? ⟨w.heap.size, 1, none⟩ = some (.int .i64 n))
    (first
      | go_keep
      | exact (c2.cell (p := ⟨w.heap.size, 1, none⟩) hbx (by simp; exact hgb)).trans b1
      | exact (((c2.mono (T := [g, q]) (by simp +contextual)).trans c3 (by simp +contextual)).cell (p := ⟨w.heap.size, 1, none⟩) hbx (by simp; exact ⟨hgb, hqb⟩)).trans b1)
    (first
      | (go_at_call 45; refine (P1.out _ (H.out.tp.keep (Chg.refl _ []).drew (by simp) (by simp))).mono ?_; rintro e w2 ⟨rfl, t2, c2⟩)
      | (go_at_call 73; refine (P2.out _ ((H.out.tq.keep (Chg.refl _ []).drew (by simp) (by simp)).keep c2 (by simp; exact fun h0 => H.out.n1 h0.symm) (by simp; exact fun h0 => H.out.n2 h0.symm))).mono ?_; rintro e w3 ⟨rfl, t3, c3⟩))
  go_wp2
  go_ret
  obtain ⟨r1, r2⟩ := step_end (H.out.keep (Chg.refl _ []).drew (by simp) (by simp) (by simp) (by simp)) k1.drew t2 c2 t3 c3
  exact ⟨rfl, s', r1, r2, hL⟩

set_option maxRecDepth 100000 in
set_option maxHeartbeats 2000000 in
theorem step3 (g r q rq : Nat) (s : St) (x n : Int) (m : Nat) (w : World) (h : TT w g r q rq s) (hl : s.1.length ≤ 1000000) (hx : x.tmod 6 = 3) :
    Calls Try.prog 57 #[.pointer (some ⟨g, 0, none⟩), .pointer (some ⟨q, 0, none⟩), .agg #[.int .i64 x, .int .i64 n, .int .u64 m]] w (StepTo w g r q rq s) := by
  have hg := h.tp.lt
  have hq := h.tq.lt
  have k1 : Chg w (w.alloc (.cells #[.int .i64 x, .int .i64 n, .int .u64 m] 95)) [] := (Chg.refl w []).alloc _
  have h1 := h.keep k1 (by simp) (by simp) (by simp) (by simp)
  have hbx : w.heap.size < (w.alloc (.cells #[.int .i64 x, .int .i64 n, .int .u64 m] 95)).heap.size := by simp
  have b1 : (w.alloc (.cells #[.int .i64 x, .int .i64 n, .int .u64 m] 95)).cell? ⟨w.heap.size, 1, none⟩ = some (.int .i64 n) := by simp [World.cell?_alloc_at]
  have hP1 : ∀ W, Tp W g r s → Calls Try.prog 52 #[.pointer (some ⟨g, 0, none⟩), .int .i64 n] W (BytesTo W g r (bytesS s n).1 (bytesS s n).2) := fun W hW => bytes_any g r s n W hW hl
  have hP2 : ∀ W, Tq W q rq s → Calls Try.prog 74 #[.pointer (some ⟨q, 0, none⟩), .int .i64 n] W (SqTo W q rq (bytesS s n).1 (bytesS s n).2) := fun W hW => rbytes_any q rq s n W hW hl
  have hL := bytesS_len s n
  have P1 := hid hP1
  have P2 := hid hP2
  generalize bytesS s n = R at *
  obtain ⟨v, s'⟩ := R
  simp only at P1 P2 hL
  have H := hid h1
  have X0 : (x.tmod 6 == 0) = false := by simp [hx]
  have X1 : (x.tmod 6 == 1) = false := by simp [hx]
  have X2 : (x.tmod 6 == 2) = false := by simp [hx]
  have X3 : (x.tmod 6 == 3) = true := by simp [hx]
  have hgb : w.heap.size ≠ g := by omega
  have hqb : w.heap.size ≠ q := by omega
  clear hP1 hP2 h h1 hx
  go_enter Try.func57, Try.ntmps57
  go_upto_region 12 with fail
  generalize w.alloc (.cells #[.int .i64 x, .int .i64 n, .int .u64 m] 95) = W1 at *
  go_region_held3 (fun W => W.cell? ⟨w.heap.size, 1, none⟩ = some (.int .i64 n))
    (first
      | go_keep
      | exact (c2.cell (p := ⟨w.heap.size, 1, none⟩) hbx (by simp; exact hgb)).trans b1
      | exact (((c2.mono (T := [g, q]) (by simp +contextual)).trans c3 (by simp +contextual)).cell (p := ⟨w.heap.size, 1, none⟩) hbx (by simp; exact ⟨hgb, hqb⟩)).trans b1)
    (first
      | (go_at_call 52; refine (P1.out _ (H.out.tp.keep (Chg.refl _ []).drew (by simp) (by simp))).mono ?_; rintro e w2 ⟨a2, d2, rfl, o2, t2, c2, z2⟩)
      | (go_at_call 74; refine (P2.out _ ((H.out.tq.keep (Chg.refl _ []).drew (by simp) (by simp)).keep c2 (by simp; exact fun h0 => H.out.n1 h0.symm) (by simp; exact fun h0 => H.out.n2 h0.symm))).mono ?_; rintro e w3 ⟨a3, d3, rfl, o3, t3, c3, z3⟩))
  have hq2 := H.out.tq.lt
  have hcv1 := run_str (o2.bs.keep c3 (by simp; simp at z2; omega))
  have hcv2 := run_str o3
  go_wp2
  go_ret
  obtain ⟨r1, r2⟩ := step_end (H.out.keep (Chg.refl _ []).drew (by simp) (by simp) (by simp) (by simp)) k1.drew t2 c2 t3 c3
  exact ⟨rfl, s', r1, r2, hL⟩

set_option maxRecDepth 100000 in
set_option maxHeartbeats 2000000 in
theorem step4 (g r q rq : Nat) (s : St) (x n : Int) (m : Nat) (w : World) (h : TT w g r q rq s) (_hl : s.1.length ≤ 1000000) (hx : x.tmod 6 = 4) :
    Calls Try.prog 57 #[.pointer (some ⟨g, 0, none⟩), .pointer (some ⟨q, 0, none⟩), .agg #[.int .i64 x, .int .i64 n, .int .u64 m]] w (StepTo w g r q rq s) := by
  have hg := h.tp.lt
  have hq := h.tq.lt
  have k1 : Chg w (w.alloc (.cells #[.int .i64 x, .int .i64 n, .int .u64 m] 95)) [] := (Chg.refl w []).alloc _
  have h1 := h.keep k1 (by simp) (by simp) (by simp) (by simp)
  have hbx : w.heap.size < (w.alloc (.cells #[.int .i64 x, .int .i64 n, .int .u64 m] 95)).heap.size := by simp
  have P1 := hid (fun W (hW : Tp W g r s) => end_any g r s W hW)
  have P2 := hid (fun W (hW : Tq W q rq s) => rend_any q rq s W hW)
  have hL := endS_len s
  generalize endS s = R at *
  obtain ⟨v, s'⟩ := R
  simp only at P1 P2 hL
  have H := hid h1
  have X0 : (x.tmod 6 == 0) = false := by simp [hx]
  have X1 : (x.tmod 6 == 1) = false := by simp [hx]
  have X2 : (x.tmod 6 == 2) = false := by simp [hx]
  have X3 : (x.tmod 6 == 3) = false := by simp [hx]
  have X4 : (x.tmod 6 == 4) = true := by simp [hx]
  clear h h1 hx
  go_enter Try.func57, Try.ntmps57
  go_upto_region 15 with fail
  generalize w.alloc (.cells #[.int .i64 x, .int .i64 n, .int .u64 m] 95) = W1 at *
  go_wp2_with (first
    | (go_at_call 47; refine (P1.out _ H.out.tp).mono ?_; rintro e w2 ⟨rfl, t2, c2⟩)
    | (go_at_call 75; refine (P2.out _ (H.out.tq.keep c2 (by simp; exact fun h0 => H.out.n1 h0.symm) (by simp; exact fun h0 => H.out.n2 h0.symm))).mono ?_; rintro e w3 ⟨rfl, t3, c3⟩))
  go_ret
  obtain ⟨r1, r2⟩ := step_end H.out k1 t2 c2 t3 c3
  exact ⟨rfl, s', r1, r2, hL⟩

set_option maxRecDepth 100000 in
set_option maxHeartbeats 2000000 in
theorem step5 (g r q rq : Nat) (s : St) (x n : Int) (m : Nat) (w : World) (h : TT w g r q rq s) (_hl : s.1.length ≤ 1000000) (hx : ∀ j : Int, 0 ≤ j → j ≤ 4 → x.tmod 6 ≠ j) :
    Calls Try.prog 57 #[.pointer (some ⟨g, 0, none⟩), .pointer (some ⟨q, 0, none⟩), .agg #[.int .i64 x, .int .i64 n, .int .u64 m]] w (StepTo w g r q rq s) := by
  have hg := h.tp.lt
  have hq := h.tq.lt
  have k1 : Chg w (w.alloc (.cells #[.int .i64 x, .int .i64 n, .int .u64 m] 95)) [] := (Chg.refl w []).alloc _
  have h1 := h.keep k1 (by simp) (by simp) (by simp) (by simp)
  have hbx : w.heap.size < (w.alloc (.cells #[.int .i64 x, .int .i64 n, .int .u64 m] 95)).heap.size := by simp
  have X0 : (x.tmod 6 == 0) = false := by have := hx 0 (by omega) (by omega); simpa using this
  have X1 : (x.tmod 6 == 1) = false := by have := hx 1 (by omega) (by omega); simpa using this
  have X2 : (x.tmod 6 == 2) = false := by have := hx 2 (by omega) (by omega); simpa using this
  have X3 : (x.tmod 6 == 3) = false := by have := hx 3 (by omega) (by omega); simpa using this
  have X4 : (x.tmod 6 == 4) = false := by have := hx 4 (by omega) (by omega); simpa using this
  have P1 := hid (fun W (hW : Tp W g r s) => tear_any g r s W hW)
  have H := hid h1
  clear h h1 hx
  go_enter Try.func57, Try.ntmps57
  go_upto_region 17 with fail
  generalize w.alloc (.cells #[.int .i64 x, .int .i64 n, .int .u64 m] 95) = W1 at *
  go_wp2_with (go_at_call 51; refine (P1.out _ H.out.tp).mono ?_; rintro e w2 ⟨rfl, t2, c2⟩
               obtain ⟨o3, d3, t3⟩ := H.out.tq.keep c2 (by simp; exact fun h0 => H.out.n1 h0.symm) (by simp; exact fun h0 => H.out.n2 h0.symm)
               have e1 := t3.c1
               have f1 := t3.f 1
               have T3 := hid t3
               clear t3)
  go_ret
  have t4 : Tq _ q rq (s.1, true) := ⟨o3, d3, T3.out.set1 true⟩
  obtain ⟨r1, r2⟩ := step_end (s' := (s.1, true)) H.out k1 t2 c2 t4 (set_chg _ _ _ _)
  exact ⟨rfl, (s.1, true), r1, r2, Nat.le_refl _⟩

theorem step_any (g r q rq : Nat) (s : St) (x n : Int) (m : Nat) (w : World) (h : TT w g r q rq s) (hl : s.1.length ≤ 1000000) (hm : m < 18446744073709551616) (hn : n ≤ 9223372036854775807) :
    Calls Try.prog 57 #[.pointer (some ⟨g, 0, none⟩), .pointer (some ⟨q, 0, none⟩), .agg #[.int .i64 x, .int .i64 n, .int .u64 m]] w (StepTo w g r q rq s) := by
  by_cases h0 : x.tmod 6 = 0
  · exact step0 g r q rq s x n m w h hl h0
  by_cases h1 : x.tmod 6 = 1
  · exact step1 g r q rq s x n m w h hl hm h1
  by_cases h2 : x.tmod 6 = 2
  · exact step2 g r q rq s x n m w h hl hn h2
  by_cases h3 : x.tmod 6 = 3
  · exact step3 g r q rq s x n m w h hl h3
  by_cases h4 : x.tmod 6 = 4
  · exact step4 g r q rq s x n m w h hl h4
  exact step5 g r q rq s x n m w h hl fun j hj1 hj2 => by
    have : j = 0 ∨ j = 1 ∨ j = 2 ∨ j = 3 ∨ j = 4 := by omega
    rcases this with rfl | rfl | rfl | rfl | rfl <;> assumption
end Go.Proofs.Ytabdpebokpjljaa
