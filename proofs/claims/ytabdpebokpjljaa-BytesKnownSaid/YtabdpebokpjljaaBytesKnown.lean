/- BytesKnown: the chapter's examples hold. No condition. -/
import Derived.Test.YtabdpebokpjljaaV5
import Derived.Deep.DeepCutAuto
import Derived.Deep.Cut
import Derived.Deep.CutRange
namespace Go.Proofs.Ytabdpebokpjljaa
open Go.RowKit

set_option maxRecDepth 100000 in
set_option maxHeartbeats 8000000 in
theorem known04_walk (w : World) : Calls Try.prog 9 #[] w (Yes w) := by
  have kc := fun (w : World) (C : Array Value) (n c : Nat) => Lib.run_convert_bytes_const (P := Try.prog) w 27 5 C n c Try.underlying27 Try.underlying5
  have KC := hid kc
  clear kc
  have p1 : ∀ W : World, Calls Try.prog 29 #[.slice none 0 0, .int .i64 2, .int .u64 513] W (NewRow W [2, 1]) := fun W => put_any none 0 0 [] 2 513 W (Bs.nil _) (by omega) (by simp)
  have p2 : ∀ W : World, Calls Try.prog 29 #[.slice none 0 0, .int .i64 4, .int .u64 4294967303] W (NewRow W [0, 0, 0, 7]) := fun W => by
    have := put_any none 0 0 [] 4 4294967303 W (Bs.nil _) (by omega) (by simp)
    rwa [show encW 4 4294967303 = [0, 0, 0, 7] from by decide] at this
  have p3 : ∀ W : World, Calls Try.prog 29 #[.slice (some ⟨W.heap.size, 0, none⟩) 1 1, .int .i64 1, .int .u64 255] (W.alloc (.cells #[.int .u8 9] 5)) (NewRow (W.alloc (.cells #[.int .u8 9] 5)) [9, 255]) := fun W =>
    put_any _ 1 1 [9] 1 255 _ (bs_lit W [9] (by decide)) (by omega) (by simp)
  have p4 : ∀ W : World, Calls Try.prog 29 #[.slice (some ⟨W.heap.size, 0, none⟩) 1 1, .int .i64 3, .int .u64 1] (W.alloc (.cells #[.int .u8 9] 5)) (NewRow (W.alloc (.cells #[.int .u8 9] 5)) [9]) := fun W =>
    put_any _ 1 1 [9] 3 1 _ (bs_lit W [9] (by decide)) (by omega) (by simp)
  have p5 : ∀ W : World, Calls Try.prog 30 #[.slice none 0 0, .string ⟨#[97, 98]⟩] W (NewRowE W [0, 2, 97, 98] 0) := fun W => putText_ok none 0 0 [] ⟨#[97, 98]⟩ W (Bs.nil _) (by simp) (by decide)
  have P1 := hid p1
  have P2 := hid p2
  have P3 := hid p3
  have P4 := hid p4
  have P5 := hid p5
  clear p1 p2 p3 p4 p5
  obtain ⟨M, hM⟩ : ∃ M : Nat, M = 65536 := ⟨_, rfl⟩
  have HM := hid hM
  clear hM
  go_enter Try.func9, Try.ntmps9
  go_wp2_with fail
  refine (P1.out _).mono ?_
  rintro e w1 ⟨g1, c1, rfl, o1, h1, z1⟩
  go_wp2_with fail
  refine (P2.out _).mono ?_
  rintro e w2 ⟨g2, c2, rfl, o2, h2, z2⟩
  go_wp2_with fail
  refine (P3.out _).mono ?_
  rintro e w3 ⟨g3, c3, rfl, o3, h3, z3⟩
  go_wp2_with fail
  refine (P4.out _).mono ?_
  rintro e w4 ⟨g4, c4, rfl, o4, h4, z4⟩
  go_wp2_with fail
  refine (P5.out _).mono ?_
  rintro e w5 ⟨g5, c5, rfl, o5, h5, z5⟩
  have k12 := h2
  have k23 : Chg w2 w3 [] := ((Chg.refl w2 []).alloc _).trans h3 (by simp)
  have k34 : Chg w3 w4 [] := ((Chg.refl w3 []).alloc _).trans h4 (by simp)
  have k45 := h5
  have b1 := hid ((((o1.bs.keep k12 (by simp)).keep k23 (by simp)).keep k34 (by simp)).keep k45 (by simp))
  have b2 := hid (((o2.bs.keep k23 (by simp)).keep k34 (by simp)).keep k45 (by simp))
  have b3 := hid ((o3.bs.keep k34 (by simp)).keep k45 (by simp))
  have b4 := hid (o4.bs.keep k45 (by simp))
  have b5 := hid o5.bs
  have k05 : Chg w w5 [] := (((h1.trans k12 (by simp)).trans k23 (by simp)).trans k34 (by simp)).trans k45 (by simp)
  have K05 := hid k05
  clear P1 P2 P3 P4 P5 o1 o2 o3 o4 o5 h1 h2 h3 h4 h5 z1 z2 z3 z4 z5 k12 k23 k34 k45 k05
  go_upto_region 7 with (first
    | (at_make; refine wp_make rfl _ _ rfl M _ _ _ _ rfl rfl (by have := HM.out; omega) (by have := HM.out; omega) (by have := HM.out; omega) ?_; intro w6 o6 h6
       have hZl : (List.replicate M (0 : UInt8)).length = M := List.length_replicate
       have hcv := run_str o6.bs
       rw [hZl] at hcv
       generalize List.replicate M (0 : UInt8) = Z at *)
    | (go_at_call 30; refine (putText_long _ _ _ (by show 65535 < Z.length; have := HM.out; omega) (by show Z.length ≤ _; have := HM.out; omega)).mono ?_; rintro e w7 ⟨rfl, rfl⟩))
  have q1 : (convert 27 9 (.slice (some ⟨g1, 0, none⟩) 2 c1)).run Try.prog w6 = .ok (.string (str [2, 1])) w6 := run_str (b1.out.keep h6 (by simp))
  have q2 : (convert 27 9 (.slice (some ⟨g2, 0, none⟩) 4 c2)).run Try.prog w6 = .ok (.string (str [0, 0, 0, 7])) w6 := run_str (b2.out.keep h6 (by simp))
  have q3 : (convert 27 9 (.slice (some ⟨g3, 0, none⟩) 2 c3)).run Try.prog w6 = .ok (.string (str [9, 255])) w6 := run_str (b3.out.keep h6 (by simp))
  have q4 : (convert 27 9 (.slice (some ⟨g4, 0, none⟩) 1 c4)).run Try.prog w6 = .ok (.string (str [9])) w6 := run_str (b4.out.keep h6 (by simp))
  have q5 : (convert 27 9 (.slice (some ⟨g5, 0, none⟩) 4 c5)).run Try.prog w6 = .ok (.string (str [0, 2, 97, 98])) w6 := run_str (b5.out.keep h6 (by simp))
  have K06 := hid (K05.out.trans h6 (by simp))
  clear b1 b2 b3 b4 b5 h6 o6 hcv K05 hZl
  go_upto_region 9 with fail
  clear q1 q2 q3 q4 q5
  have kc := KC.out
  have nt : ∀ (W : World) (a b c d : UInt8), Calls Try.prog 36 #[.slice (some ⟨W.heap.size, 0, none⟩) 4 4] (W.alloc (.cells #[bv a, bv b, bv c, bv d] 5 (4, 5))) (NewTp W [a, b, c, d]) := fun W a b c d =>
    (newTape_any _ 4 4 [a, b, c, d] _ (bs_litM W [a, b, c, d] (4, 5) (by simp)) (by simp)).mono fun e w' ⟨g, r, x1, x2, x3, x4, x5⟩ =>
      ⟨g, r, x1, x2, ((Chg.refl W []).alloc _).trans x3 (by simp), by simp at x4; omega, by simp at x5; omega⟩
  have ntA : ∀ W : World, Calls Try.prog 36 #[.slice (some ⟨W.heap.size, 0, none⟩) 4 4] (W.alloc (.cells #[.int .u8 0, .int .u8 2, .int .u8 97, .int .u8 98] 5 (4, 5))) (NewTp W [0, 2, 97, 98]) := fun W => nt W 0 2 97 98
  have NTA := hid ntA
  have nt2 : ∀ (W : World) (a b : UInt8), Calls Try.prog 36 #[.slice (some ⟨W.heap.size, 0, none⟩) 2 2] (W.alloc (.cells #[bv a, bv b] 5)) (NewTp W [a, b]) := fun W a b =>
    (newTape_any _ 2 2 [a, b] _ (bs_lit W [a, b] (by simp)) (by simp)).mono fun e w' ⟨g, r, x1, x2, x3, x4, x5⟩ =>
      ⟨g, r, x1, x2, ((Chg.refl W []).alloc _).trans x3 (by simp), by simp at x4; omega, by simp at x5; omega⟩
  have ntB : ∀ W : World, Calls Try.prog 36 #[.slice (some ⟨W.heap.size, 0, none⟩) 2 2] (W.alloc (.cells #[.int .u8 0, .int .u8 5] 5)) (NewTp W [0, 5]) := fun W => nt2 W 0 5
  have ntC : ∀ W : World, Calls Try.prog 36 #[.slice (some ⟨W.heap.size, 0, none⟩) 2 2] (W.alloc (.cells #[.int .u8 0, .int .u8 6] 5)) (NewTp W [0, 6]) := fun W => nt2 W 0 6
  have e1 : ∀ W g r, Tp W g r ([0, 2, 97, 98], false) → Calls Try.prog 45 #[.pointer (some ⟨g, 0, none⟩), .int .i64 2] W (TpTo W g r (.string (str [97, 98])) ([], false)) := fun W g r h => by
    have := text_any g r ([0, 2, 97, 98], false) 2 W h (by decide)
    rwa [show textS ([0, 2, 97, 98], false) 2 = ([97, 98], ([], false)) from by decide] at this
  have e2 : ∀ W g r, Tp W g r ([0, 2, 97, 98], false) → Calls Try.prog 45 #[.pointer (some ⟨g, 0, none⟩), .int .i64 1] W (TpTo W g r (.string ⟨#[]⟩) ([0, 2, 97, 98], true)) := fun W g r h => by
    have := text_any g r ([0, 2, 97, 98], false) 1 W h (by decide)
    rwa [show textS ([0, 2, 97, 98], false) 1 = ([], ([0, 2, 97, 98], true)) from by decide] at this
  have e3 : ∀ W g r, Tp W g r ([0, 2, 97, 98], false) → Calls Try.prog 39 #[.pointer (some ⟨g, 0, none⟩), .int .i64 8] W (TpTo W g r (.int .u64 0) ([0, 2, 97, 98], true)) := fun W g r h => by
    have := num_any g r ([0, 2, 97, 98], false) 8 W h
    rwa [show numS ([0, 2, 97, 98], false) 8 = (0, ([0, 2, 97, 98], true)) from by decide] at this
  have e4 : ∀ W g r, Tp W g r ([0, 5], false) → Calls Try.prog 46 #[.pointer (some ⟨g, 0, none⟩), .int .i64 2, .int .u64 5] W (TpTo W g r (.int .i64 5) ([], false)) := fun W g r h => by
    have := below_any g r ([0, 5], false) 2 5 W h (by omega)
    rwa [show belowS ([0, 5], false) 2 5 = (5, ([], false)) from by decide] at this
  have e5 : ∀ W g r, Tp W g r ([0, 6], false) → Calls Try.prog 46 #[.pointer (some ⟨g, 0, none⟩), .int .i64 2, .int .u64 5] W (TpTo W g r (.int .i64 0) ([0, 6], true)) := fun W g r h => by
    have := below_any g r ([0, 6], false) 2 5 W h (by omega)
    rwa [show belowS ([0, 6], false) 2 5 = (0, ([0, 6], true)) from by decide] at this
  have e6 : ∀ W g r l, Tp W g r (l, true) → Calls Try.prog 43 #[.pointer (some ⟨g, 0, none⟩)] W fun e w' => e = .returned (.int .i64 4) ∧ W = w' := fun W g r l h => err_any g r _ W h
  have e7 : ∀ W g r, Tp W g r ([], false) → Calls Try.prog 47 #[.pointer (some ⟨g, 0, none⟩)] W (TpTo W g r (.int .i64 0) ([], false)) := fun W g r h => by
    have := end_any g r ([], false) W h
    rwa [show endS ([], false) = (0, ([], false)) from by decide] at this
  have e8 : ∀ W g r, Tp W g r ([0, 6], true) → Calls Try.prog 41 #[.pointer (some ⟨g, 0, none⟩)] W fun e w' => e = .returned (.int .i64 2) ∧ W = w' := fun W g r h => left_any g r _ W h
  have NTB := hid ntB
  have NTC := hid ntC
  have E1 := hid e1
  have E2 := hid e2
  have E3 := hid e3
  have E4 := hid e4
  have E5 := hid e5
  have E6 := hid e6
  have E7 := hid e7
  have E8 := hid e8
  clear e1 e2 e3 e4 e5 e6 e7 e8 ntB ntC nt2
  have nt4 : ∀ (W : World) (a b c d : UInt8), Calls Try.prog 36 #[.slice (some ⟨W.heap.size, 0, none⟩) 4 4] (W.alloc (.cells #[bv a, bv b, bv c, bv d] 5)) (NewTp W [a, b, c, d]) := fun W a b c d =>
    (newTape_any _ 4 4 [a, b, c, d] _ (bs_lit W [a, b, c, d] (by simp)) (by simp)).mono fun e w' ⟨g, r, x1, x2, x3, x4, x5⟩ =>
      ⟨g, r, x1, x2, ((Chg.refl W []).alloc _).trans x3 (by simp), by simp at x4; omega, by simp at x5; omega⟩
  have NTD : Hid (∀ W : World, Calls Try.prog 36 #[.slice (some ⟨W.heap.size, 0, none⟩) 4 4] (W.alloc (.cells #[.int .u8 0, .int .u8 2, .int .u8 7, .int .u8 9] 5)) (NewTp W [0, 2, 7, 9])) := fun W => nt4 W 0 2 7 9
  have NTE : Hid (∀ W : World, Calls Try.prog 36 #[.slice (some ⟨W.heap.size, 0, none⟩) 4 4] (W.alloc (.cells #[.int .u8 0, .int .u8 3, .int .u8 7, .int .u8 9] 5)) (NewTp W [0, 3, 7, 9])) := fun W => nt4 W 0 3 7 9
  have R1 : Hid (∀ W g r, Tp W g r ([0, 2, 7, 9], false) → Calls Try.prog 37 #[.pointer (some ⟨g, 0, none⟩), .int .i64 2, .func (.func 48) #[] #[]] W fun e w' => ∃ ao c, e = .returned (.slice ao 2 c) ∧ Uw W w' ao 2 c [7, 9] ∧ Tp w' g r ([], false) ∧ Chg W w' [g]) := fun W g r h => by
    have := prow48 g r ([0, 2, 7, 9], false) 2 W h (by omega)
    rw [show rowS ([0, 2, 7, 9], false) 2 1 = ([7, 9], ([], false)) from by decide] at this
    exact this
  have R2 : Hid (∀ W g r, Tp W g r ([0, 2, 7, 9], false) → Calls Try.prog 37 #[.pointer (some ⟨g, 0, none⟩), .int .i64 1, .func (.func 48) #[] #[]] W fun e w' => ∃ ao c, e = .returned (.slice ao 0 c) ∧ Uw W w' ao 0 c [] ∧ Tp w' g r ([0, 2, 7, 9], true) ∧ Chg W w' [g]) := fun W g r h => by
    have := prow48 g r ([0, 2, 7, 9], false) 1 W h (by omega)
    rw [show rowS ([0, 2, 7, 9], false) 1 1 = ([], ([0, 2, 7, 9], true)) from by decide] at this
    exact this
  have R3 : Hid (∀ W g r, Tp W g r ([0, 3, 7, 9], false) → Calls Try.prog 37 #[.pointer (some ⟨g, 0, none⟩), .int .i64 5, .func (.func 48) #[] #[]] W fun e w' => ∃ ao c, e = .returned (.slice ao 0 c) ∧ Uw W w' ao 0 c [] ∧ Tp w' g r ([], true) ∧ Chg W w' [g]) := fun W g r h => by
    have := prow48 g r ([0, 3, 7, 9], false) 5 W h (by omega)
    rw [show rowS ([0, 3, 7, 9], false) 5 1 = ([], ([], true)) from by decide] at this
    exact this
  clear nt ntA nt4
  go_wp2_with fail
  refine (NTA.out _).mono ?_
  rintro e w7 ⟨g7, r7, rfl, t7, h7, z7, y7⟩
  go_wp2_with fail
  refine (NTA.out _).mono ?_
  rintro e w8 ⟨g8, r8, rfl, t8, h8, z8, y8⟩
  go_wp2_with fail
  refine (NTA.out _).mono ?_
  rintro e w9 ⟨g9, r9, rfl, t9, h9, z9, y9⟩
  have l7 := t7.lt
  have l8 := t8.lt
  have l9 := t9.lt
  go_wp2_with fail
  refine (E1.out _ _ _ ((t7.keep h8 (by simp) (by simp)).keep h9 (by simp) (by simp))).mono ?_
  rintro e w10 ⟨rfl, t10, h10⟩
  go_wp2_with fail
  refine (E2.out _ _ _ ((t8.keep h9 (by simp) (by simp)).keep h10 (by simp; omega) (by simp; omega))).mono ?_
  rintro e w11 ⟨rfl, t11, h11⟩
  go_wp2_with fail
  refine (E3.out _ _ _ ((t9.keep h10 (by simp; omega) (by simp; omega)).keep h11 (by simp; omega) (by simp; omega))).mono ?_
  rintro e w12 ⟨rfl, t12, h12⟩
  go_wp2_with fail
  refine (NTB.out _).mono ?_
  rintro e w13 ⟨g13, r13, rfl, t13, h13, z13, y13⟩
  have s10 := h10.size
  have s11 := h11.size
  have s12 := h12.size
  have l13 := t13.lt
  go_wp2_with fail
  refine (E4.out _ _ _ t13).mono ?_
  rintro e w14 ⟨rfl, t14, h14⟩
  have s14 := h14.size
  go_wp2_with fail
  refine (NTC.out _).mono ?_
  rintro e w15 ⟨g15, r15, rfl, t15, h15, z15, y15⟩
  have l15 := t15.lt
  go_wp2_with fail
  refine (E5.out _ _ _ t15).mono ?_
  rintro e w16 ⟨rfl, t16, h16⟩
  have s13 := h13.size
  have u11 : Tp w16 g8 r8 ([0, 2, 97, 98], true) := ((((t11.keep h12 (by simp; omega) (by simp; omega)).keep h13 (by simp) (by simp)).keep h14 (by simp; omega) (by simp; omega)).keep h15 (by simp) (by simp)).keep h16 (by simp; omega) (by simp; omega)
  have u12 : Tp w16 g9 r9 ([0, 2, 97, 98], true) := (((t12.keep h13 (by simp) (by simp)).keep h14 (by simp; omega) (by simp; omega)).keep h15 (by simp) (by simp)).keep h16 (by simp; omega) (by simp; omega)
  have u14 : Tp w16 g13 r13 ([], false) := (t14.keep h15 (by simp) (by simp)).keep h16 (by simp; omega) (by simp; omega)
  have tok1 : True := trivial
  have tok2 : True := trivial
  go_upto_region 21 with (first
    | (go_at_call 43; have _t := tok1; refine (E6.out _ _ _ _ u11).mono ?_; clear _t tok1; rintro e w17 ⟨rfl, rfl⟩)
    | (go_at_call 43; have _t := tok2; refine (E6.out _ _ _ _ u12).mono ?_; clear _t tok2; rintro e w17 ⟨rfl, rfl⟩)
    | (go_at_call 47; refine (E7.out _ _ _ u14).mono ?_; rintro e w17 ⟨rfl, t17, h17⟩; have u16 := t16.keep h17 (by simp; omega) (by simp; omega))
    | (go_at_call 41; refine (E8.out _ _ _ u16).mono ?_; rintro e w18 ⟨rfl, rfl⟩)
    | (go_at_call 43; refine (E6.out _ _ _ _ u16).mono ?_; rintro e w17 ⟨rfl, rfl⟩))
  have k6s := K06.out.size
  have s7 := h7.size
  have s8 := h8.size
  have s9 := h9.size
  have k9 := (((K06.out.trans h7 (by simp)).trans h8 (by simp)).trans h9 (by simp))
  have k12 := ((k9.step h10 (by simp; omega)).step h11 (by simp; omega)).step h12 (by simp; omega)
  have k14 := (k12.trans h13 (by simp)).step h14 (by simp; omega)
  have k16 := (k14.trans h15 (by simp)).step h16 (by simp; omega)
  have K17 := hid (k16.step h17 (by simp; omega))
  clear k9 k12 k14 k16 s7 s8 s9 k6s K06 u11 u12 u14 u16 E1 E2 E3 E4 E5 E7 E8 NTA NTB NTC t7 t8 t9 t10 t11 t12 t13 t14 t15 t16 t17 h7 h8 h9 h10 h11 h12 h13 h14 h15 h16 h17 s10 s11 s12 s13 s14 l7 l8 l9 l13 l15 z7 z8 z9 z13 z15 y7 y8 y9 y13 y15
  go_wp2_with fail
  refine (NTD.out _).mono ?_
  rintro e v1 ⟨q1, r1, rfl, t1, c1, y1, x1⟩
  have d1 := K17.out.trans c1 (by simp)
  have e1 := K17.out.size
  go_wp2_with fail
  refine (R1.out _ _ _ t1).mono ?_
  rintro e v2 ⟨ao, cc, rfl, U, t2, c2⟩
  have d2 := d1.step c2 (by simp; omega)
  have e2 := c2.size
  have e0 := c1.size
  go_wp2_with fail
  refine (NTD.out _).mono ?_
  rintro e v3 ⟨q3, r3, rfl, t3, c3, y3, x3⟩
  go_wp2_with fail
  refine (R2.out _ _ _ t3).mono ?_
  rintro e v4 ⟨ao4, cc4, rfl, U4, t4, c4⟩
  go_wp2_with fail
  refine (NTE.out _).mono ?_
  rintro e v5 ⟨q5, r5, rfl, t5, c5, y5, x5⟩
  go_wp2_with fail
  refine (R3.out _ _ _ t5).mono ?_
  rintro e v6 ⟨ao6, cc6, rfl, U6, t6, c6⟩
  have d3 := d2.trans c3 (by simp)
  have e3 := d2.size
  have d4 := d3.step c4 (by simp; omega)
  have e4 := d4.size
  have d6 := hid ((d4.trans c5 (by simp)).step c6 (by simp; omega))
  obtain ⟨lq, lr, _⟩ := t4.lt
  have m3 := c3.size
  have m4 := c4.size
  have m5 := c5.size
  have t4b := hid ((t4.keep c5 (by simp) (by simp)).keep c6 (by simp; omega) (by simp; omega))
  obtain ⟨gu, vu, rfl, hvu, hcu⟩ := U.cellAt (k := 1) (by omega)
  obtain rfl : 9 = vu := by simpa using hvu
  have lu : gu < v2.heap.size := (U.block _ rfl).2
  have HU : Hid (∀ W, Chg v6 W [] → W.cell? ⟨gu, 1, none⟩ = some (.int .u64 9)) := fun W hW =>
    (hW.cell (p := ⟨gu, 1, none⟩) (Nat.lt_of_lt_of_le lu (Nat.le_trans m3 (Nat.le_trans m4 (Nat.le_trans m5 c6.size)))) (by simp)).trans
      ((c6.cell (p := ⟨gu, 1, none⟩) (Nat.lt_of_lt_of_le lu (Nat.le_trans m3 (Nat.le_trans m4 m5))) (by simp; omega)).trans
      ((c5.cell (p := ⟨gu, 1, none⟩) (Nat.lt_of_lt_of_le lu (Nat.le_trans m3 m4)) (by simp)).trans
      ((c4.cell (p := ⟨gu, 1, none⟩) (Nat.lt_of_lt_of_le lu m3) (by simp; omega)).trans
      ((c3.cell (p := ⟨gu, 1, none⟩) lu (by simp)).trans hcu))))
  have t6b := hid t6
  clear d1 d2 d3 d4 e0 e1 e2 e3 e4 hvu hcu lu m3 m4 m5 lq lr c1 c2 c3 c4 c5 c6 t1 t2 t3 t4 t5 t6 U U4 U6 y1 x1 y3 x3 y5 x5 K17 NTD NTE R1 R2 R3
  go_wp2_with (at_make; refine wp_makeI rfl _ _ rfl M _ _ _ _ rfl rfl (by have := HM.out; omega) (by have := HM.out; omega) (by have := HM.out; omega) ?_; intro v7 c7)
  refine (putRow49_long _ _ _ _ _ _ (by have := HM.out; omega) (by have := HM.out; omega)).mono ?_
  rintro e v8 ⟨rfl, rfl⟩
  go_wp2_with fail
  refine (tear_nil _).mono ?_
  rintro e v9 ⟨rfl, rfl⟩
  have k78 : Chg v6 (v7.alloc (.cells #[.slice none 0 0, .bool false, .bool false] 78)) [] := c7.alloc _
  have hE : EmpT (v7.alloc (.cells #[.slice none 0 0, .bool false, .bool false] 78)) v7.heap.size := ⟨by simp [World.cell?_alloc_at], by simp [World.cell?_alloc_at], by simp⟩
  generalize v7.alloc (.cells #[.slice none 0 0, .bool false, .bool false] 78) = v9 at *
  have u9 := HU.out _ k78
  have T4 := hid (t4b.out.keep k78 (by simp) (by simp))
  have T6 := hid (t6b.out.keep k78 (by simp) (by simp))
  have K9 := hid (d6.out.trans k78 (by simp))
  have HE := hid hE
  clear hE k78 c7 d6 t4b t6b HU
  have tok1 : True := trivial
  have tok2 : True := trivial
  have tok3 : True := trivial
  go_wp2_with (first
    | (go_at_call 43; have _t := tok1; refine (E6.out _ _ _ _ T4.out).mono ?_; clear _t tok1; rintro e x2 ⟨rfl, rfl⟩)
    | (go_at_call 43; have _t := tok2; refine (E6.out _ _ _ _ T6.out).mono ?_; clear _t tok2; rintro e x2 ⟨rfl, rfl⟩)
    | (go_at_call 43; have _t := tok3; refine (err_nil _).mono ?_; clear _t tok3; rintro e x2 ⟨rfl, rfl⟩)
    | (go_at_call 43; refine (err_emp _ _ HE.out).mono ?_; rintro e x2 ⟨rfl, rfl⟩)
    | (go_at_call 39; refine (num_nil _).mono ?_; rintro e x2 ⟨rfl, rfl⟩)
    | (go_at_call 47; refine (end_nil _).mono ?_; rintro e x2 ⟨rfl, rfl⟩)
    | (go_at_call 41; refine (left_nil _).mono ?_; rintro e x2 ⟨rfl, rfl⟩)
    | (go_at_call 52; refine (bytes_emp _ _ HE.out).mono ?_; rintro e x2 ⟨x3, c3, rfl, h3⟩)
    | (go_at_call 33; refine (works04 _).mono ?_; rintro e x4 ⟨rfl, hbel⟩))
  go_ret
  exact ⟨rfl, (K9.out.trans h3 (by simp)).then_below hbel⟩
end Go.Proofs.Ytabdpebokpjljaa
