/- Walks: Next of the reader of package frame, where a whole frame is held. -/
import Derived.Test.YtabdpebokpjljaaF2
import Derived.Deep.RegionLaw
import Derived.Deep.RegionHeld3
namespace Go.Proofs.Ytabdpebokpjljaa
open Go.RowKit

/-- append onto a row of bytes of the call's own, as one step of a drawn region. -/
theorem step_app {ops : Array Oper} {o : Oper} {a : Act} {w : World} {K : Act → World → Prop} {Q : Exit → Act → World → Prop} {E : Prop} (hgd : o.guard = none) (s x : Operand)
    (ho : o.op = .call { callee := .builtin .append, args := #[s, x], argTypes := #[27, 27] })
    (g c n : Nat) (l : List UInt8) (hs : a.eval s = .slice (some ⟨g, 0, none⟩) n c) (hn : n = l.length) (hown : Ow w g c l)
    (ao : Option Addr) (m cx : Nat) (l2 : List UInt8) (hx : a.eval x = .slice ao m cx) (hb : Src w 1 ao m (l2.map bv)) (hmax : l.length + l2.length ≤ 10000000)
    (h : ∀ g' c' w', Ow w' g' c' (l ++ l2) → Chg w w' [g] → (g' = g ∨ w.heap.size ≤ g') → K (a.put o.dst (.slice (some ⟨g', 0, none⟩) (n + m) c')) w') :
    if Region.wanted o (yielded ops a.tmps) = true then Oper.wp Try.prog o a w K Q else E := by
  rw [if_pos (by simp [Region.wanted, hgd])]
  subst hn
  obtain ⟨i, hi, hz0, hz1, hz2⟩ := info_parts info5
  have hm : m = l2.length := by have := hb.1; simpa using this.symm
  subst hm
  obtain ⟨g', c', w', hr, h2, h3, h4⟩ := run_app (P := Try.prog) w 27 o.type 5 i (.int .u8 0) 1 1 Try.underlying27 hi hz0 hz1 hz2 rfl g c l.length _ hown ao l2.length cx _ hb (bv_one l2) (by unfold maxLen; omega) (by omega)
  unfold Oper.wp execOp
  simp only [ho, resolve, invoke, builtin, Sem.run_bind, Sem.run_pure, Result.andThen_ok, List.map_toArray, List.map_cons, List.map_nil, hs, hx, hr]
  refine h g' c' w' ?_ h3 h4
  have e : l.length + l2.length = (l ++ l2).length := by simp
  unfold Ow
  rw [List.map_append, ← e]
  exact h2

theorem Bs.upto {w : World} {ao : Option Addr} {n c : Nat} {l : List UInt8} (h : Bs w ao n c l) (k : Nat) (hk : k ≤ n) : Bs w ao k c (l.take k) := by
  obtain ⟨rfl, h2, h3, h4, h5, h6⟩ := h
  refine ⟨by simp; omega, by omega, h3, h4, h5, by simp; omega, fun ha => ?_, fun x hx j u hu => h6.2.2 x hx j u ?_⟩
  · have := h6.2.1 ha; omega
  · rw [List.map_take, List.getElem?_take] at hu
    split at hu
    · exact hu
    · cases hu

theorem Bs.dropAt {w : World} {r o n c : Nat} {l : List UInt8} (h : Bs w (some ⟨r, o, none⟩) n c l) (k : Nat) (hk : k ≤ n) (hck : ¬ c = k) : Bs w (some ⟨r, o + k, none⟩) (n - k) (c - k) (l.drop k) := by
  have := h.drop k hk
  rwa [if_neg hck] at this

/-- The world behind Next's two boxes. -/
def nextBox (w : World) (g : Nat) : World := (w.alloc (.cells #[.pointer (some ⟨g, 0, none⟩)] 23)).alloc (.cells #[.int .i64 0] 25)

/-- What the cells hold behind the number of the first four bytes. -/
theorem next_mid {w w3 w4 : World} {g t : Nat} (hg : g < w.heap.size) (hf : ∀ i, w.frozen? ⟨g, i, none⟩ = false) (h3 : Chg (nextBox w g) w3 []) (hge : (nextBox w g).heap.size ≤ t) (h4 : Chg w3 w4 [t]) :
    Chg w w4 [] ∧ (∀ p : Addr, p.block < w.heap.size → w4.cell? p = w.cell? p) ∧ w4.cell? ⟨w.heap.size, 0, none⟩ = some (.pointer (some ⟨g, 0, none⟩)) ∧ w4.cell? ⟨w.heap.size + 1, 0, none⟩ = some (.int .i64 0) ∧
      w4.frozen? ⟨w.heap.size + 1, 0, none⟩ = false ∧ (∀ i, w4.frozen? ⟨g, i, none⟩ = false) ∧ w.heap.size + 2 ≤ w4.heap.size := by
  have hs : (nextBox w g).heap.size = w.heap.size + 2 := by simp [nextBox]
  have k2 : Chg w (nextBox w g) [] := ((Chg.refl w []).alloc _).alloc _
  have k5 : Chg (nextBox w g) w4 [] := h3.step h4 (by simp; omega)
  have k4 := k2.step k5 (by simp)
  refine ⟨k4, fun p hp => k4.cell hp (by simp), ?_, ?_, ?_, fun i => ?_, by have := k5.size; omega⟩
  · rw [k5.cell (by rw [hs]; simp) (by simp)]
    simp [nextBox, World.cell?_alloc_past, World.cell?_alloc_at]
  · rw [k5.cell (by rw [hs]; simp) (by simp)]
    simp [nextBox, World.cell?_alloc_at]
  · rw [k5.frozen (by rw [hs]; simp) (by simp)]
    simp [nextBox, World.frozen?_alloc_at]
  · rw [k4.frozen hg (by simp)]; exact hf i

/-- What Next leaves where it hands out a frame. -/
def NextYes (w : World) (g : Nat) (l : List UInt8) (m kk : Nat) (e : Ending) (w' : World) : Prop :=
  ∃ y c z, e = .returned (.tuple #[.int .i64 kk, .slice (some ⟨y, 0, none⟩) (m - 5) c, .bool true, .int .i64 0]) ∧ Ow w' y c ((l.take m).drop 5) ∧ Rd w' g [z] (l.drop m) false ∧ Chg w w' [g] ∧ w.heap.size ≤ y ∧ w.heap.size ≤ z ∧ y ≠ z

theorem cell_set_same {w : World} {a : Addr} {u v : Value} (h : w.cell? a = some u) : (w.setCell a v).cell? a = some v := by
  first | exact World.cell?_setCell_same h | exact World.cell?_setCell_same _ h | exact World.cell?_setCell_same _ _ h | exact World.cell?_setCell_same _ _ _ h

theorem next_fin {w w4 w5 w6 : World} {g y z c5 c6 ln er : Nat} {B D : List UInt8} {v : Value} (hblk : w.heap[g]? = some (.cells #[v, .bool true, .bool false] 106)) (hg : g < w.heap.size) (k4 : Chg w w4 []) (hs : er < w4.heap.size) (hes : w.heap.size ≤ er)
    (h5 : Chg (w4.alloc (.cells #[] 5)) w5 [w4.heap.size]) (o5 : y = w4.heap.size ∨ (w4.alloc (.cells #[] 5)).heap.size ≤ y) (hy : Ow w5 y c5 B) (h6 : Chg w5 w6 []) (o6 : z = w5.heap.size ∨ w5.heap.size + 1 ≤ z) (hz : Ow w6 z c6 D) (hD : D.length = ln) :
    Ow ((w6.setCell ⟨g, 0, none⟩ (.slice (some ⟨z, 0, none⟩) ln c6)).setCell ⟨er, 0, none⟩ (.int .i64 0)) y c5 B ∧
    Rd ((w6.setCell ⟨g, 0, none⟩ (.slice (some ⟨z, 0, none⟩) ln c6)).setCell ⟨er, 0, none⟩ (.int .i64 0)) g [z] D false ∧
    Chg w ((w6.setCell ⟨g, 0, none⟩ (.slice (some ⟨z, 0, none⟩) ln c6)).setCell ⟨er, 0, none⟩ (.int .i64 0)) [g] ∧ w.heap.size ≤ y ∧ w.heap.size ≤ z ∧ y ≠ z := by
  subst hD
  have s4 := k4.size
  have s5 : Chg w4 w5 [] := ((Chg.refl w4 []).alloc _).trans h5 (by simp)
  have s5' := s5.size
  have s6 := h6.size
  simp only [World.size_alloc] at o5
  have hyl := hy.lt
  have ks : Chg w w6 [] := (k4.step s5 (by simp)).step h6 (by simp)
  have hb6 : w6.heap[g]? = some (.cells #[v, .bool true, .bool false] 106) := by rw [ks.block g hg (by simp)]; exact hblk
  have hr := Rd.mk0 hb6 hz (by omega)
  have hc2 : Chg (w6.setCell ⟨g, 0, none⟩ (.slice (some ⟨z, 0, none⟩) D.length c6)) ((w6.setCell ⟨g, 0, none⟩ (.slice (some ⟨z, 0, none⟩) D.length c6)).setCell ⟨er, 0, none⟩ (.int .i64 0)) [er] := set_chg _ _ _ _
  refine ⟨((hy.keep h6 (by simp)).keep (set_chg _ _ _ _) (by simp; omega)).keep hc2 (by simp; omega), hr.keep hc2 (by simp; omega) (by simp; omega), ?_, by omega, by omega, by omega⟩
  exact ((ks.mono (T := [g]) (by simp)).trans (set_chg w6 g 0 _) (by simp)).trans hc2 (by simp; omega)

set_option maxRecDepth 100000 in
set_option maxHeartbeats 4000000 in
theorem next_full (g x c : Nat) (l : List UInt8) (n m kk : Nat) (w : World) (hblk : w.heap[g]? = some (.cells #[.slice (some ⟨x, 0, none⟩) l.length c, .bool true, .bool false] 106)) (hown : Ow w x c l) (hxg : x ≠ g)
    (h4 : 4 ≤ l.length) (hn : be (l.take 4) = n) (hn1 : 1 ≤ n) (hn2 : n ≤ 16385) (h5 : 5 ≤ l.length) (hk : w.cell? ⟨x, 4, none⟩ = some (.int .u8 kk)) (hk1 : 1 ≤ kk) (hk2 : kk ≤ 9) (hm : m = 4 + n) (hml : m ≤ l.length) (hlm : l.length ≤ 1000000) (ob orr : Nat) (hob : ob = if m = 5 then 0 else 5) (hor : orr = if c = m then 0 else m) :
    Calls Try.prog 25 #[.pointer (some ⟨g, 0, none⟩)] w (NextYes w g l m kk) := by
  have i1 : (if m = 5 then some ({ block := x, off := 0 } : Addr) else some { block := x, off := 5 }) = some { block := x, off := ob } := by rw [hob]; split <;> rfl
  have i2 : (if c = m then some ({ block := x, off := 0 } : Addr) else some { block := x, off := m }) = some { block := x, off := orr } := by rw [hor]; split <;> rfl
  have HB := hid hblk
  have h : Rd w g [x] l false := .inr ⟨x, c, rfl, hxg, hblk, hown⟩
  obtain ⟨_, c1, c2, hf⟩ := h.cells
  have c0 : w.cell? ⟨g, 0, none⟩ = some (.slice (some ⟨x, 0, none⟩) l.length c) := by rw [cell_of_row w g 0 _ _ _ hblk]; rfl
  have hg := h.lt
  have hxl := hown.lt
  have hle := hown.bs.2.1
  have hmx := hown.bs.2.2.1
  unfold maxLen at hmx
  have hp : ∀ W, Chg w W [] → Calls Try.prog 61 #[.pointer (some ⟨g, 0, none⟩)] W fun e w' => e = .returned (.int .i64 0) ∧ W = w' := fun W hc => by
    have := rerr_any g false W (by rw [hc.cell hg (by simp)]; exact c1) (by rw [hc.cell hg (by simp)]; exact c2)
    simpa using this
  have hN : ∀ (W : World) (g r : Nat), Tp W g r (l.take 4, false) → Calls Try.prog 39 #[.pointer (some ⟨g, 0, none⟩), .int .i64 4] W (TpTo W g r (.int .u64 n) ([], false)) := fun W g r h => by
    have := num_any g r _ 4 W h
    rwa [numS, if_pos ⟨rfl, by unfold mayW; omega, by simp; omega⟩, show (4 : Int).toNat = 4 from rfl, List.take_take, Nat.min_self, hn, List.drop_take, Nat.sub_self, List.take_zero] at this
  have HP := hid hp
  have HN := hid hN
  have H := hid h
  have HO := hid hown
  have hmf : ∀ (fn : Fn) (first cap : Array Value) (w : World), (Instr.makeFunc fn first cap).run Try.prog w = .ok (.func fn first cap) w := fun _ _ _ _ => rfl
  have d1 : (4 : Int) ≤ (l.length : Int) := by omega
  have d2 : (5 : Int) ≤ (l.length : Int) := by omega
  have d3 : (n : Int) ≤ 16385 := by omega
  have d4 : (1 : Int) ≤ (n : Int) := by omega
  have d5 : (kk : Int) ≤ 9 := by omega
  have d6 : (1 : Int) ≤ (kk : Int) := by omega
  have d7 : (m : Int) ≤ (l.length : Int) := by omega
  have d8 : (5 : Int) ≤ (m : Int) := by omega
  have e1 : IntKind.i64.wrap (4 + (n : Int)) = (m : Int) := by rw [IntWalk.i64_in _ (by omega)]; omega
  have hbd := (hown.bs.take m hml).drop 5 (by omega)
  have hro := hown.bs.drop m hml
  rw [show (if m = 5 then 0 else 0 + 5) = ob from by rw [hob]] at hbd
  rw [show (if c = m then 0 else 0 + m) = orr from by rw [hor]; simp] at hro
  have HBd := hid hbd
  have HRo := hid hro
  have HM := hid hm
  have q1 : g ≠ w.heap.size + 1 := by omega
  clear hbd hro hob hor
  clear hp hN h hown hblk hm hn
  go_enter_defers Try.func25, Try.ntmps25
  go_wp2_with (first
    | (go_at_call 61; refine (HP.out _ (((Chg.refl w []).alloc _).alloc _)).mono ?_; rintro e w1 ⟨rfl, rfl⟩)
    | (go_at_call 36; refine (newTape_any _ _ _ (l.take 4) _ (((HO.out.bs.alloc _).alloc _).upto 4 h4) (by simp; omega)).mono ?_; rintro e w3 ⟨t, r, rfl, ht3, hchg3, hge3, hger3⟩)
    | (go_at_call 39; refine (HN.out _ _ _ ht3).mono ?_; rintro e w4 ⟨rfl, ht4, hchg4⟩
       obtain ⟨k4, kc, b2, b3, b4, b5, ks⟩ := next_mid hg hf hchg3 hge3 hchg4
       have b0 := (kc ⟨g, 0, none⟩ hg).trans c0
       have b1 := (kc ⟨x, 4, none⟩ hxl).trans hk
       have s1 : w.heap.size < w4.heap.size := by omega
       have s2 : w.heap.size + 1 < w4.heap.size := by omega
       have s3 : g < w4.heap.size := by omega
       clear kc)
    | (at_builtin; refine wp_app rfl _ _ rfl w4.heap.size 0 0 [] rfl rfl (ow_empty w4) (some ⟨x, ob, none⟩) (m - 5) (m - 5) ((l.take m).drop 5) rfl (((HBd.out.keep k4 (by simp)).alloc _).src) (by simp; omega) ?_; intro y c5 w5 hown5 hchg5 hor5))
  have k6 : Chg w4 w5 [] := ((Chg.refl w4 []).alloc _).trans hchg5 (by simp)
  have a0 : w5.cell? ⟨g, 0, none⟩ = some (.slice (some ⟨x, 0, none⟩) l.length c) := by rw [k6.cell s3 (by simp)]; exact b0
  have a2 : w5.cell? ⟨w.heap.size, 0, none⟩ = some (.pointer (some ⟨g, 0, none⟩)) := by rw [k6.cell s1 (by simp)]; exact b2
  have a5 : w5.frozen? ⟨g, 0, none⟩ = false := by rw [k6.frozen s3 (by simp)]; exact b5 0
  have t1 : w.heap.size < w5.heap.size := by have := k6.size; omega
  have t2 : w.heap.size + 1 < w5.heap.size := by have := k6.size; omega
  have t3 : g < w5.heap.size := by have := k6.size; omega
  have a3 : w5.cell? ⟨w.heap.size + 1, 0, none⟩ = some (.int .i64 0) := by rw [k6.cell s2 (by simp)]; exact b3
  have a4 : w5.frozen? ⟨w.heap.size + 1, 0, none⟩ = false := by rw [k6.frozen s2 (by simp)]; exact b4
  have k7 : Chg w5 ((w5.alloc (.cells #[] 5)).drew) [] := ((Chg.refl w5 []).alloc _).drew
  have S2 := hid s2
  clear b0 b1 b2 b3 b4 b5 s1 s2 s3
  refine wp_region_noPanic ?_
  go_region_law ((refine step_app rfl _ _ rfl w5.heap.size 0 0 [] rfl rfl (ow_empty w5) (some ⟨x, orr, none⟩) (l.length - m) (c - m) (l.drop m) rfl (((HRo.out.keep (k4.step k6 (by simp)) (by simp)).keep k7 (by simp)).src) (by simp; omega) ?_; intro z c6 w6 hown6 hchg6 hor6; have k8 := k7.trans hchg6 (by simp); have u0 := (k8.cell t3 (by simp)).trans a0; have u2 := (k8.cell t1 (by simp)).trans a2; have u5 := (k8.frozen t3 (by simp)).trans a5; have u3 := (k8.cell t2 (by simp)).trans a3; have u4 := (k8.frozen t2 (by simp)).trans a4))
  all_goals
    refine NoPanic.normal ?_
    go_wp2
    have hf6 := next_fin HB.out hg k4 S2.out (by omega) hchg5 hor5 hown5 k8 (by simpa using hor6) hown6 (ln := l.length - m) (by simp)
    refine next_leave_no rfl rfl rfl rfl rfl ?_ ⟨y, c5, z, rfl, hf6.1, hf6.2.1, hf6.2.2.1, hf6.2.2.2.1, hf6.2.2.2.2.1, hf6.2.2.2.2.2⟩
    exact cell_set_same (u := .int .i64 0) (by rw [World.cell?_setCell_far _ _ _ _ q1]; exact u3)
end Go.Proofs.Ytabdpebokpjljaa
