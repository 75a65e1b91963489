/- BytesLay: for every string, width and number the law answers true, and nothing that was there has turned. No condition. -/
import Derived.Test.YtabdpebokpjljaaR1
import Derived.Test.YtabdpebokpjljaaH
namespace Go.Proofs.Ytabdpebokpjljaa
open Go.RowKit
set_option linter.unusedSimpArgs false

theorem encW_length (wd : Int) (n : Nat) : (encW wd n).length ≤ 8 := by
  unfold encW
  split
  · rename_i h; rw [enc_length]; unfold mayW at h; omega
  · simp

/-- What stays true while only new blocks come: the three rows read as they did. -/
def LayS (w0 : World) (ga ca gb cb gc cc : Nat) (L1 L2 L3 : List UInt8) (w' : World) : Prop :=
  Chg w0 w' [] ∧ (convert 27 9 (.slice (some ⟨ga, 0, none⟩) L1.length ca)).run Try.prog w' = .ok (.string (str L1)) w' ∧ (convert 27 9 (.slice (some ⟨gb, 0, none⟩) L2.length cb)).run Try.prog w' = .ok (.string (str L2)) w'
    ∧ (convert 27 9 (.slice (some ⟨gc, 0, none⟩) L3.length cc)).run Try.prog w' = .ok (.string (str L3)) w'
theorem layS {w0 w' : World} {ga ca gb cb gc cc : Nat} {L1 L2 L3 : List UInt8} (h1 : Ow w0 ga ca L1) (h2 : Ow w0 gb cb L2) (h3 : Ow w0 gc cc L3) (h : Chg w0 w' []) : LayS w0 ga ca gb cb gc cc L1 L2 L3 w' :=
  ⟨h, run_str (h1.keep h (by simp)).bs, run_str (h2.keep h (by simp)).bs, run_str (h3.keep h (by simp)).bs⟩

set_option maxRecDepth 100000 in
set_option maxHeartbeats 2000000 in
theorem lay_any (s : ByteArray) (hs : s.size ≤ maxLen) (wd : Int) (n : Nat) (hn : n < 18446744073709551616) (w : World) :
    Calls Try.prog 6 #[.string s, .int .i64 wd, .int .u64 n] w (Yes w) := by
  have hS : (cutB s 300).size ≤ 300 := by rw [cutB_size]; omega
  have P0 := hid (cut04 s 300 w hs (by decide))
  clear hs
  generalize cutB s 300 = S at *
  have hl : S.data.toList.length = S.size := by rw [Array.length_toList]; rfl
  have hST : S.toList = S.data.toList := ByteArray.toList_eq S
  have p1 : ∀ (W : World) (ao : Option Addr) (n1 c : Nat), Bs W ao n1 c S.data.toList → Calls Try.prog 29 #[.slice ao n1 c, .int .i64 wd, .int .u64 n] W (NewRow W (S.data.toList ++ encW wd n)) := fun W ao n1 c h => by
    exact put_any ao n1 c _ wd n W h hn (by omega)
  have p2 : ∀ (W : World) (ao : Option Addr) (n1 c : Nat), Bs W ao n1 c S.data.toList → Calls Try.prog 30 #[.slice ao n1 c, .string S] W (NewRowE W (S.data.toList ++ encT S.data.toList) 0) := fun W ao n1 c h =>
    putText_ok ao n1 c _ S W h (by omega) (by omega)
  have p3 : ∀ W : World, Calls Try.prog 31 #[.string S] W (NewRowE W (encT S.data.toList) 0) := fun W => rtext_ok S W (by omega)
  have p4 : ∀ W : World, Calls Try.prog 32 #[.int .i64 wd, .int .u64 n] W (NewBs W (encW wd n)) := fun W => rnum_any wd n W hn
  have P1 := hid p1
  have P2 := hid p2
  have P3 := hid p3
  have P4 := hid p4
  clear p1 p2 p3 p4
  have e1 : (S ++ str (encW wd n)).toList = S.data.toList ++ encW wd n := by rw [ByteArray.toList_eq, ByteArray.data_append, Array.toList_append, str_data]
  have e2 : (S ++ str (encT S.data.toList)).toList = S.data.toList ++ encT S.data.toList := by rw [ByteArray.toList_eq, ByteArray.data_append, Array.toList_append, str_data]
  have hadd1 : ¬ (9223372036854775807 < S.size + (encW wd n).length) := by have := encW_length wd n; omega
  have hadd2 : ¬ (9223372036854775807 < S.size + (encT S.data.toList).length) := by rw [encT, List.length_append, enc_length]; omega
  generalize hdl : S.data.toList = l at *
  have HD := hid hdl
  clear hdl
  generalize encW wd n = l1 at *
  generalize encT l = l2 at *
  generalize l ++ l1 = L1 at *
  generalize l ++ l2 = L2 at *
  have HL := hid hl
  clear hl hn
  go_enter Try.func6, Try.ntmps6
  go_wp2_with (first
    | (go_at_call 28; refine P0.out.mono ?_; rintro e w0 ⟨rfl, rfl⟩)
    | (refine wp_bytes rfl _ rfl S rfl (by unfold maxLen; omega) ?_; intro c w1 hb1 hf1 hc1 hsz1; rw [HD.out] at hb1)
    | (go_at_call 29; refine (P1.out _ _ _ _ hb1).mono ?_; rintro e w2 ⟨ga, ca, rfl, hown2, hchg2, hge2⟩)
    | (go_at_call 30; refine (P2.out _ _ _ _ (hb1.keep hchg2 (by simp))).mono ?_; rintro e w3 ⟨gb, cb, rfl, hown3, hchg3, hge3⟩)
    | (go_at_call 31; refine (P3.out _).mono ?_; rintro e w4 ⟨gc, cc, rfl, hown4, hchg4, hge4⟩))
  have hS0 : ∀ W, Chg w4 W [] → LayS w4 ga ca gb cb gc cc L1 L2 l2 W := fun W h => layS ((hown2.keep hchg3 (by simp)).keep hchg4 (by simp)) (hown3.keep hchg4 (by simp)) hown4 h
  have HS0 := hid hS0
  clear hS0
  have k0 : Chg w4 w4.drew [] := (Chg.refl _ _).drew
  have q1 : ∀ W, Chg w4 W [] → (convert 27 9 (.slice (some ⟨ga, 0, none⟩) L1.length ca)).run Try.prog W = .ok (.string (str L1)) W := fun W h => (HS0.out W h).2.1
  have q2 : ∀ W, Chg w4 W [] → (convert 27 9 (.slice (some ⟨gb, 0, none⟩) L2.length cb)).run Try.prog W = .ok (.string (str L2)) W := fun W h => (HS0.out W h).2.2.1
  have q3 : ∀ W, Chg w4 W [] → (convert 27 9 (.slice (some ⟨gc, 0, none⟩) l2.length cc)).run Try.prog W = .ok (.string (str l2)) W := fun W h => (HS0.out W h).2.2.2
  refine wp_region_held_drew (S := fun W => (convert 27 9 (.slice (some ⟨ga, 0, none⟩) L1.length ca)).run Try.prog W = .ok (.string (str L1)) W ∧ (convert 27 9 (.slice (some ⟨gb, 0, none⟩) L2.length cb)).run Try.prog W = .ok (.string (str L2)) W
    ∧ (convert 27 9 (.slice (some ⟨gc, 0, none⟩) l2.length cc)).run Try.prog W = .ok (.string (str l2)) W) (by kernel_rfl) ⟨q1 _ k0, q2 _ k0, q3 _ k0⟩ (fun hS0 => ?_)
  refine take_at (i := 0) (some 33) (v := ?va0) rfl rfl (by kernel_rfl) (by kernel_rfl) (by kernel_rfl) (fun _ _ _ h => h) (Or.inl ⟨by rfl, ?ha0⟩) hS0 ?ra0
  case ha0 => (intro W hSw; (try dsimp only at hSw); go_simp; first | done | with_reducible rfl)
  try simp only [Act.put, List.setIfInBounds_toArray, List.set_cons_zero, List.set_cons_succ]
  refine take_at (i := 1) (some 34) (v := ?va1) rfl rfl (by kernel_rfl) (by kernel_rfl) (by kernel_rfl) (fun _ _ _ h => h) (Or.inl ⟨by rfl, ?ha1⟩) hS0 ?ra1
  case ha1 => (intro W hSw; (try dsimp only at hSw); go_simp; first | done | with_reducible rfl)
  try simp only [Act.put, List.setIfInBounds_toArray, List.set_cons_zero, List.set_cons_succ]
  refine take_at (i := 2) (some 35) (v := ?va2) rfl rfl (by kernel_rfl) (by kernel_rfl) (by kernel_rfl) (fun _ _ _ h => h) (Or.inl ⟨by rfl, ?ha2⟩) hS0 ?ra2
  case ha2 => (intro W hSw; (try dsimp only at hSw); go_simp; first | done | with_reducible rfl)
  try simp only [Act.put, List.setIfInBounds_toArray, List.set_cons_zero, List.set_cons_succ]
  refine take_at (i := 3) (some 36) (v := ?va3) rfl rfl (by kernel_rfl) (by kernel_rfl) (by kernel_rfl) (fun _ _ _ h => h) (Or.inl ⟨by rfl, ?ha3⟩) hS0 ?ra3
  case ha3 => (intro W hSw; (try dsimp only at hSw); go_simp; first | done | with_reducible rfl)
  try simp only [Act.put, List.setIfInBounds_toArray, List.set_cons_zero, List.set_cons_succ]
  refine take_at (i := 4) (some 37) (v := ?va4) rfl rfl (by kernel_rfl) (by kernel_rfl) (by kernel_rfl) (fun _ _ _ h => h) (Or.inl ⟨by rfl, ?ha4⟩) hS0 ?ra4
  case ha4 => (intro W hSw; (try dsimp only at hSw); go_simp; first | done | with_reducible rfl)
  try simp only [Act.put, List.setIfInBounds_toArray, List.set_cons_zero, List.set_cons_succ]
  refine wpAnyH_ready (rs := [5]) (by kernel_rfl) (by simp) ?_
  refine AllReadyH.cons (o := _) rfl (fun K hK => ?_) AllReadyH.nil
  go_simp
  refine (P4.out _).mono ?_
  rintro e w5 ⟨ad, cd, rfl, hbs5, hchg5⟩
  have hk := k0.trans hchg5 (by simp)
  refine hK.out _ _ ⟨q1 _ hk, q2 _ hk, q3 _ hk⟩ (fun _ => ?_)
  clear hK K
  try simp only [Act.put, List.setIfInBounds_toArray, List.set_cons_zero, List.set_cons_succ]
  refine wpAnyH_mono (S' := fun W => (convert 27 9 (.slice (some ⟨ga, 0, none⟩) L1.length ca)).run Try.prog W = .ok (.string (str L1)) W ∧ (convert 27 9 (.slice (some ⟨gb, 0, none⟩) L2.length cb)).run Try.prog W = .ok (.string (str L2)) W
    ∧ (convert 27 9 (.slice (some ⟨gc, 0, none⟩) l2.length cc)).run Try.prog W = .ok (.string (str l2)) W
    ∧ (convert 27 9 (.slice ad l1.length cd)).run Try.prog W = .ok (.string (str l1)) W) (fun W h => ⟨h.1, h.2.1, h.2.2.1⟩) _ _ _ _ ?_
  have hS5 : (fun W => (convert 27 9 (.slice (some ⟨ga, 0, none⟩) L1.length ca)).run Try.prog W = .ok (.string (str L1)) W ∧ (convert 27 9 (.slice (some ⟨gb, 0, none⟩) L2.length cb)).run Try.prog W = .ok (.string (str L2)) W
    ∧ (convert 27 9 (.slice (some ⟨gc, 0, none⟩) l2.length cc)).run Try.prog W = .ok (.string (str l2)) W
    ∧ (convert 27 9 (.slice ad l1.length cd)).run Try.prog W = .ok (.string (str l1)) W) w5 := ⟨q1 _ hk, q2 _ hk, q3 _ hk, run_str hbs5⟩
  clear q1 q2 q3
  refine take_at (i := 6) (some 39) (v := ?va6) rfl rfl (by kernel_rfl) (by kernel_rfl) (by kernel_rfl) (fun _ _ _ h => h) (Or.inl ⟨by rfl, ?ha6⟩) hS5 ?ra6
  case ha6 => (intro W hSw; (try dsimp only at hSw); go_simp; first | done | with_reducible rfl)
  try simp only [Act.put, List.setIfInBounds_toArray, List.set_cons_zero, List.set_cons_succ]
  refine take_at (i := 7) (some 40) (v := ?va7) rfl rfl (by kernel_rfl) (by kernel_rfl) (by kernel_rfl) (fun _ _ _ h => h) (Or.inl ⟨by rfl, ?ha7⟩) hS5 ?ra7
  case ha7 => (intro W hSw; (try dsimp only at hSw); go_simp; first | done | with_reducible rfl)
  try simp only [Act.put, List.setIfInBounds_toArray, List.set_cons_zero, List.set_cons_succ]
  refine take_at (i := 8) (some 41) (v := ?va8) rfl rfl (by kernel_rfl) (by kernel_rfl) (by kernel_rfl) (fun _ _ _ h => h) (Or.inl ⟨by rfl, ?ha8⟩) hS5 ?ra8
  case ha8 => (intro W hSw; (try dsimp only at hSw); go_simp; first | done | with_reducible rfl)
  try simp only [Act.put, List.setIfInBounds_toArray, List.set_cons_zero, List.set_cons_succ]
  refine take_at (i := 9) (some 42) (v := ?va9) rfl rfl (by kernel_rfl) (by kernel_rfl) (by kernel_rfl) (fun _ _ _ h => h) (Or.inl ⟨by rfl, ?ha9⟩) hS5 ?ra9
  case ha9 => (intro W hSw; (try dsimp only at hSw); go_simp; first | done | with_reducible rfl)
  try simp only [Act.put, List.setIfInBounds_toArray, List.set_cons_zero, List.set_cons_succ]
  refine take_at (i := 10) (some 43) (v := ?va10) rfl rfl (by kernel_rfl) (by kernel_rfl) (by kernel_rfl) (fun _ _ _ h => h) (Or.inl ⟨by rfl, ?ha10⟩) hS5 ?ra10
  case ha10 => (intro W hSw; (try dsimp only at hSw); go_simp; first | done | with_reducible rfl)
  try simp only [Act.put, List.setIfInBounds_toArray, List.set_cons_zero, List.set_cons_succ]
  refine take_at (i := 11) (some 44) (v := ?va11) rfl rfl (by kernel_rfl) (by kernel_rfl) (by kernel_rfl) (fun _ _ _ h => h) (Or.inl ⟨by rfl, ?ha11⟩) hS5 ?ra11
  case ha11 => (intro W hSw; (try dsimp only at hSw); go_simp; first | done | with_reducible rfl)
  try simp only [Act.put, List.setIfInBounds_toArray, List.set_cons_zero, List.set_cons_succ]
  refine take_at (i := 12) (some 45) (v := ?va12) rfl rfl (by kernel_rfl) (by kernel_rfl) (by kernel_rfl) (fun _ _ _ h => h) (Or.inl ⟨by rfl, ?ha12⟩) hS5 ?ra12
  case ha12 => (intro W hSw; (try dsimp only at hSw); go_simp; first | done | with_reducible rfl)
  try simp only [Act.put, List.setIfInBounds_toArray, List.set_cons_zero, List.set_cons_succ]
  refine take_at (i := 13) (some 46) (v := ?va13) rfl rfl (by kernel_rfl) (by kernel_rfl) (by kernel_rfl) (fun _ _ _ h => h) (Or.inl ⟨by rfl, ?ha13⟩) hS5 ?ra13
  case ha13 => (intro W hSw; (try dsimp only at hSw); go_simp; first | done | with_reducible rfl)
  try simp only [Act.put, List.setIfInBounds_toArray, List.set_cons_zero, List.set_cons_succ]
  refine take_at (i := 14) (some 47) (v := ?va14) rfl rfl (by kernel_rfl) (by kernel_rfl) (by kernel_rfl) (fun _ _ _ h => h) (Or.inl ⟨by rfl, ?ha14⟩) hS5 ?ra14
  case ha14 => (intro W hSw; (try dsimp only at hSw); go_simp; first | done | with_reducible rfl)
  try simp only [Act.put, List.setIfInBounds_toArray, List.set_cons_zero, List.set_cons_succ]
  refine take_at (i := 15) (some 48) (v := ?va15) rfl rfl (by kernel_rfl) (by kernel_rfl) (by kernel_rfl) (fun _ _ _ h => h) (Or.inl ⟨by rfl, ?ha15⟩) hS5 ?ra15
  case ha15 => (intro W hSw; (try dsimp only at hSw); go_simp; first | done | with_reducible rfl)
  try simp only [Act.put, List.setIfInBounds_toArray, List.set_cons_zero, List.set_cons_succ]
  refine take_at (i := 16) (some 49) (v := ?va16) rfl rfl (by kernel_rfl) (by kernel_rfl) (by kernel_rfl) (fun _ _ _ h => h) (Or.inl ⟨by rfl, ?ha16⟩) hS5 ?ra16
  case ha16 => (intro W hSw; (try dsimp only at hSw); go_simp; first | done | with_reducible rfl)
  try simp only [Act.put, List.setIfInBounds_toArray, List.set_cons_zero, List.set_cons_succ]
  refine take_at (i := 17) (some 50) (v := ?va17) rfl rfl (by kernel_rfl) (by kernel_rfl) (by kernel_rfl) (fun _ _ _ h => h) (Or.inl ⟨by rfl, ?ha17⟩) hS5 ?ra17
  case ha17 => (intro W hSw; (try dsimp only at hSw); go_simp; first | done | with_reducible rfl)
  try simp only [Act.put, List.setIfInBounds_toArray, List.set_cons_zero, List.set_cons_succ]
  refine take_at (i := 18) (some 51) (v := ?va18) rfl rfl (by kernel_rfl) (by kernel_rfl) (by kernel_rfl) (fun _ _ _ h => h) (Or.inl ⟨by rfl, ?ha18⟩) hS5 ?ra18
  case ha18 => (intro W hSw; (try dsimp only at hSw); go_simp; first | done | with_reducible rfl)
  try simp only [Act.put, List.setIfInBounds_toArray, List.set_cons_zero, List.set_cons_succ]
  refine take_at (i := 19) (some 52) (v := ?va19) rfl rfl (by kernel_rfl) (by kernel_rfl) (by kernel_rfl) (fun _ _ _ h => h) (Or.inl ⟨by rfl, ?ha19⟩) hS5 ?ra19
  case ha19 => (intro W hSw; (try dsimp only at hSw); go_simp; first | done | with_reducible rfl)
  try simp only [Act.put, List.setIfInBounds_toArray, List.set_cons_zero, List.set_cons_succ]
  refine take_at (i := 20) (some 53) (v := ?va20) rfl rfl (by kernel_rfl) (by kernel_rfl) (by kernel_rfl) (fun _ _ _ h => h) (Or.inl ⟨by rfl, ?ha20⟩) hS5 ?ra20
  case ha20 => (intro W hSw; (try dsimp only at hSw); go_simp; first | done | with_reducible rfl)
  try simp only [Act.put, List.setIfInBounds_toArray, List.set_cons_zero, List.set_cons_succ]
  refine take_at (i := 21) (some 54) (v := ?va21) rfl rfl (by kernel_rfl) (by kernel_rfl) (by kernel_rfl) (fun _ _ _ h => h) (Or.inl ⟨by rfl, ?ha21⟩) hS5 ?ra21
  case ha21 => (intro W hSw; (try dsimp only at hSw); go_simp; first | done | with_reducible rfl)
  try simp only [Act.put, List.setIfInBounds_toArray, List.set_cons_zero, List.set_cons_succ]
  refine take_at (i := 22) (some 55) (v := ?va22) rfl rfl (by kernel_rfl) (by kernel_rfl) (by kernel_rfl) (fun _ _ _ h => h) (Or.inl ⟨by rfl, ?ha22⟩) hS5 ?ra22
  case ha22 => (intro W hSw; (try dsimp only at hSw); go_simp; first | done | with_reducible rfl)
  try simp only [Act.put, List.setIfInBounds_toArray, List.set_cons_zero, List.set_cons_succ]
  refine take_at (i := 23) (some 56) (v := ?va23) rfl rfl (by kernel_rfl) (by kernel_rfl) (by kernel_rfl) (fun _ _ _ h => h) (Or.inl ⟨by rfl, ?ha23⟩) hS5 ?ra23
  case ha23 => (intro W hSw; (try dsimp only at hSw); go_simp; first | done | with_reducible rfl)
  try simp only [Act.put, List.setIfInBounds_toArray, List.set_cons_zero, List.set_cons_succ]
  refine take_at (i := 24) (some 57) (v := ?va24) rfl rfl (by kernel_rfl) (by kernel_rfl) (by kernel_rfl) (fun _ _ _ h => h) (Or.inl ⟨by rfl, ?ha24⟩) hS5 ?ra24
  case ha24 => (intro W hSw; (try dsimp only at hSw); go_simp; first | done | with_reducible rfl)
  try simp only [Act.put, List.setIfInBounds_toArray, List.set_cons_zero, List.set_cons_succ]
  refine take_at (i := 25) (some 58) (v := ?va25) rfl rfl (by kernel_rfl) (by kernel_rfl) (by kernel_rfl) (fun _ _ _ h => h) (Or.inl ⟨by rfl, ?ha25⟩) hS5 ?ra25
  case ha25 => (intro W hSw; (try dsimp only at hSw); go_simp; first | done | with_reducible rfl)
  try simp only [Act.put, List.setIfInBounds_toArray, List.set_cons_zero, List.set_cons_succ]
  refine wpAnyH_done (by kernel_rfl) ?_ _
  go_wp2
  clear hS0 hS5
  have hC5 : Chg w1 w5 [] := ((hchg2.step hchg3 (by simp)).step hchg4 (by simp)).step hk (by simp)
  have hown : Ow w5 ga ca L1 := ((hown2.keep hchg3 (by simp)).keep hchg4 (by simp)).keep hk (by simp)
  have hne : w.heap.size ≠ ga := by omega
  have hbw : Bs w5 (some ⟨w.heap.size, 0, none⟩) S.size c l := hb1.keep hC5 (by simp)
  have hmx : L1.length ≤ 9223372036854775807 := by have := hown.bs.2.1; have h3 := hown.bs.2.2.1; unfold maxLen at h3; omega
  go_loopw [13] (fun i wr => ∃ k la, k ≤ L1.length ∧ i = .int .i64 k ∧ la.length = L1.length ∧ Ow wr ga ca la ∧ Chg w5 wr [ga])
     (fun i _ => L1.length - (intOf i).toNat)
  case atStart => exact ⟨0, L1, by omega, rfl, rfl, hown, Chg.refl _ _⟩
  case round =>
    obtain ⟨k, la, hk1, rfl, hla, hown6, hC6⟩ := hrel
    by_cases hlt : k < L1.length
    · obtain ⟨bb, hc⟩ : ∃ bb, wr.cell? ⟨ga, k, none⟩ = some (bv bb) := ⟨_, hown6.cellAt (by omega)⟩
      have hf := Own.frozenAt hown6 k
      have hset := hid (hown6.set k (.int .u8 77) 77 rfl)
      have HLA := hid hla
      clear hla
      unfold bv at hc
      go_wp2
      go_roundw
      case rel => exact ⟨k + 1, la.set k 77, by omega, by go_num, by rw [List.length_set]; exact HLA.out, hset.out, hC6.setCell (by simp) _⟩
      case measure => simp [intOf]; omega
    · obtain rfl : k = L1.length := by omega
      have hs6 := run_str (hbw.keep hC6 (by simp; omega))
      go_wp2_with (go_at_call 33; refine (works04 _).mono ?_; rintro e w7 ⟨rfl, hbel⟩)
      go_ret
      have hC7 : Chg w wr [] := (hc1.step hC5 (by simp)).step hC6 (by simp; omega)
      exact ⟨rfl, hC7.then_below hbel⟩

theorem lay_walk (a0 : ByteArray) (a1 a2 : Int) (w0 : a0.size ≤ maxLen) (_w1 : (Lit.int .i64 a1).wf = true) (w2 : (Lit.int .u64 a2).wf = true) (w : World) :
    Calls Try.prog 6 #[.string a0, .int .i64 a1, .int .u64 a2] w (Yes w) := by
  obtain ⟨n, rfl, hn⟩ := wf_u64 w2
  exact lay_any a0 w0 a1 n hn w
end Go.Proofs.Ytabdpebokpjljaa
