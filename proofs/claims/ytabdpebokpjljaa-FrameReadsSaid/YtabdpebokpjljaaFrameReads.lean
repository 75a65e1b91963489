/- FrameReads: for every parts the law answers true, and nothing that was there has turned. No condition. -/
import Derived.Test.YtabdpebokpjljaaR3
import Derived.Test.YtabdpebokpjljaaG2
import Derived.Deep.LoopGhost
import Derived.Deep.DeepCutAuto
import Derived.Deep.Cut
import Derived.Deep.CutRange
import Derived.BigQuiet
namespace Go.Proofs.Ytabdpebokpjljaa
open Go.RowKit

theorem Chg.drewN' {w w' : World} {S : List Nat} (h : Chg w w' S) (n : Nat) : Chg w (w'.drewN n) S := ⟨h.os, h.tape, h.output, h.size, h.block⟩

/-- The program's reader and the reference's, both made since w0, apart from each other. -/
structure Rds (w0 W : World) (g : Nat) (xs : List Nat) (l : List UInt8) (br : Bool) (q : Nat) (xq : List Nat) (m : List UInt8) (bq : Bool) : Prop where
  rd : RdIn w0 W g xs l br
  rq : Rq W q xq m bq
  ge : w0.heap.size ≤ q
  gex : ∀ x, x ∈ xq → w0.heap.size ≤ x
  ne : q ≠ g
  nx : q ∉ xs
  mx : g ∉ xq
  ap : ∀ x, x ∈ xq → x ∉ xs

section
variable {w0 W W' : World} {g : Nat} {xs xs' : List Nat} {l l' : List UInt8} {br br' : Bool} {q : Nat} {xq xq' : List Nat} {m m' : List UInt8} {bq bq' : Bool}
theorem Rds.turn (h : Rds w0 W g xs l br q xq m bq) {S : List Nat} (hc : Chg W W' S) (hS : ∀ k, k ∈ S → w0.heap.size ≤ k ∧ k ≠ g ∧ k ∉ xs ∧ k ≠ q ∧ k ∉ xq) : Rds w0 W' g xs l br q xq m bq :=
  ⟨h.rd.step hc (fun hm => (hS _ hm).2.1 rfl) (fun _ hx hm => (hS _ hm).2.2.1 hx) (fun k hk => (hS k hk).1), h.rq.keep hc (fun hm => (hS _ hm).2.2.2.1 rfl) (fun _ hx hm => (hS _ hm).2.2.2.2 hx), h.ge, h.gex, h.ne, h.nx, h.mx, h.ap⟩
theorem Rds.same (h : Rds w0 W g xs l br q xq m bq) (hc : Chg W W' []) : Rds w0 W' g xs l br q xq m bq := h.turn hc (by simp)
theorem Rds.left (h : Rds w0 W g xs l br q xq m bq) (hr : RdIn w0 W' g xs' l' br') (hc : Chg W W' (g :: xs)) (hx : ∀ x, x ∈ xs' → x ∈ xs ∨ W.heap.size ≤ x) : Rds w0 W' g xs' l' br' q xq m bq := by
  have hq := h.rq.lt
  refine ⟨hr, h.rq.keep hc ?_ ?_, h.ge, h.gex, h.ne, fun hm => ?_, h.mx, fun x hx1 hm => ?_⟩
  · rw [List.mem_cons]; rintro (h1 | h1)
    · exact h.ne h1
    · exact h.nx h1
  · intro x hx1
    rw [List.mem_cons]; rintro (h1 | h1)
    · exact h.mx (h1 ▸ hx1)
    · exact h.ap x hx1 h1
  · rcases hx _ hm with h1 | h1
    · exact h.nx h1
    · omega
  · rcases hx _ hm with h1 | h1
    · exact h.ap x hx1 h1
    · have := (h.rq.ltx x hx1).2; omega
theorem Rds.right (h : Rds w0 W g xs l br q xq m bq) (hr : Rq W' q xq' m' bq') (hc : Chg W W' [q]) (hx : ∀ x, x ∈ xq' → x ∈ xq ∨ W.heap.size ≤ x) : Rds w0 W' g xs l br q xq' m' bq' := by
  have hg := h.rd.rd.lt
  have hs := h.rd.chg.size
  refine ⟨h.rd.step hc (by simp; exact fun h1 => h.ne h1.symm) (fun x hx1 hm => ?_) (by simp; exact h.ge), hr, h.ge, fun x hx1 => ?_, h.ne, h.nx, fun hm => ?_, fun x hx1 hm => ?_⟩
  · rw [List.mem_singleton] at hm; exact h.nx (hm ▸ hx1)
  · rcases hx x hx1 with h1 | h1
    · exact h.gex x h1
    · omega
  · rcases hx _ hm with h1 | h1
    · exact h.mx h1
    · omega
  · rcases hx _ hx1 with h1 | h1
    · exact h.ap x h1 hm
    · have := (h.rd.rd.ltx x hm).1; omega
end

/-- Block b starts with n bytes that may be written. -/
def OwnB (w : World) (b n : Nat) : Prop := ∀ j, j < n → (∃ c : UInt8, w.cell? ⟨b, j, none⟩ = some (bv c)) ∧ w.frozen? ⟨b, j, none⟩ = false
theorem OwnB.set {w : World} {b n : Nat} (h : OwnB w b n) {i : Nat} (hi : i < n) (v : Value) (c : UInt8) (hv : v = bv c) : OwnB (w.setCell ⟨b, i, none⟩ v) b n := by
  subst hv
  intro j hj
  obtain ⟨⟨c1, h1⟩, h2⟩ := h j hj
  refine ⟨?_, by simp; exact h2⟩
  by_cases e : j = i
  · subst e; exact ⟨c, cell_set_same h1⟩
  · exact ⟨c1, by rw [World.cell?_setCell_other w ⟨b, i, none⟩ ⟨b, j, none⟩ _ (fun h0 => e (by injection h0 with _ h0 _; exact h0.symm))]; exact h1⟩
theorem OwnB.keep {w w' : World} {b n : Nat} {S : List Nat} (h : OwnB w b n) (hc : Chg w w' S) (hb : b < w.heap.size) (hn : b ∉ S) : OwnB w' b n := fun j hj =>
  ⟨by rw [hc.cell hb hn]; exact (h j hj).1, by rw [hc.frozen hb hn]; exact (h j hj).2⟩
theorem pushS_len (l : List UInt8) (br : Bool) (b : List UInt8) (h : l.length ≤ 131072) : (pushS l br b).2.1.length ≤ 131072 := by
  unfold pushS
  split
  · exact h
  · split
    · exact h
    · simp only [List.length_append]; omega
theorem nextS_len7 (l : List UInt8) (br : Bool) (h : l.length ≤ 131072) : (nextS l br).2.1.length ≤ 131072 := by
  refine Nat.le_trans ?_ h
  unfold nextS
  repeat' split
  all_goals simp only [List.length_drop]; omega
theorem sep_q {w0 W : World} {g : Nat} {xs xs' : List Nat} {l : List UInt8} {br : Bool} {q : Nat} {xq : List Nat} {m : List UInt8} {bq : Bool} {ao : Option Addr} (h : Rds w0 W g xs l br q xq m bq)
    (hy : ∀ y, ao = some y → W.heap.size ≤ y.block ∧ y.block ≠ g ∧ y.block ∉ xs') : ∀ y, ao = some y → y.block ∉ [q] := by
  intro y h1 h2
  rw [List.mem_singleton] at h2
  have := (hy y h1).1
  have := h.rq.lt
  omega
theorem sub_byte (B : Nat) (h : B ≤ 255) : Value.int .u8 (255 - (B : Int)) = bv (UInt8.ofNat (255 - B)) := by
  rw [bv, UInt8.toNat_ofNat']; congr 1; omega
set_option maxRecDepth 100000 in
set_option maxHeartbeats 4000000 in
theorem reads_walk {w : World} (ao : Option Addr) (n c : Nat) (l : List Pt) (h : AIn pc 2 pok w ao n l) : Calls Try.prog 4 #[.slice ao n c] w (Yes w) := by
  have hmx := h.max
  have HIn := hid h
  clear h
  go_enter Try.func4, Try.ntmps4
  go_wp2_with (go_at_call 20; refine (new_in _).mono ?_; rintro e w1 ⟨g, rfl, hr1, hg1⟩)
  have hl1 := hr1.rd.lt
  have h0 : Rds w (w1.alloc (.cells #[.slice none 0 0, .bool false] 34)) g [] [] false w1.heap.size [] [] false :=
    ⟨hr1.alloc _, rq_new w1, hr1.chg.size, by simp, by omega, by simp, by simp, by simp⟩
  generalize w1.heap.size = q at *
  go_loopw [5] (fun is wr => ∃ (k : Nat) (xs xq : List Nat) (L : List UInt8) (br : Bool), is = .int .i64 k ∧ k ≤ n ∧ k ≤ 60 ∧ L.length ≤ 131072 ∧ Rds w wr g xs L br q xq L br) (fun is _ => 60 - (intOf is).toNat)
  case atStart => exact ⟨0, [], [], [], false, rfl, by omega, by omega, by simp, h0⟩
  case round =>
    clear h0 hr1 hg1 hl1
    obtain ⟨k, xs, xq, L, br, rfl, hkn, hk60, hL, hT⟩ := hrel
    have hkn' : (k : Int) ≤ (n : Int) := by omega
    have hk60' : (k : Int) ≤ 60 := by omega
    by_cases hlt : k < n ∧ k < 60
    · obtain ⟨hlt1, hlt2⟩ := hlt
      have hlt1' : (k : Int) < (n : Int) := by omega
      have hlt2' : (k : Int) < 60 := by omega
      obtain ⟨b, o, ⟨s, A⟩, rfl, hbl, _, ⟨hs, hA⟩, hcell⟩ := HIn.out.at hlt1
      have HC := hid hcell
      obtain ⟨hc0, hc1⟩ : wr.cell? ⟨b, o + k * 2, none⟩ = some (.string s) ∧ wr.cell? ⟨b, o + k * 2 + 1, none⟩ = some (.int .u8 A) := ⟨hcell wr hT.rd.chg 0 _ rfl, hcell wr hT.rd.chg 1 _ rfl⟩
      simp only at hs hA
      clear hcell
      go_upto_region 6 with fail
      go_cut [6] (fun v wx => v = .string (cutB s 3000) ∧ Chg wr wx [])
      case first =>
        have hs1 : (s.size : Int) ≤ 9223372036854775807 := by omega
        by_cases h3 : 3000 < s.size
        · have h3' : (3000 : Int) < (s.size : Int) := by omega
          have HX := hid (cutB_lt h3)
          go_quiet (fail)
          go_wp2
          go_meet
          exact ⟨by rw [HX.out], (Chg.refl _ _).drewN' _⟩
        · have h3' : (s.size : Int) ≤ 3000 := by omega
          have HX := hid (cutB_ge h3)
          go_quiet (fail)
          go_wp2
          go_meet
          exact ⟨by rw [HX.out], (Chg.refl _ _).drewN' _⟩
      case rest =>
        obtain ⟨rfl, hc2⟩ := hcut
        have hS : (cutB s 3000).size ≤ 3000 := by rw [cutB_size]; omega
        have hSl : (cutB s 3000).data.toList.length = (cutB s 3000).size := by rw [Array.length_toList]; rfl
        have hP1 : ∀ (W : World) (b c : Nat), RdIn w W g xs L br → Bs W (some ⟨b, 0, none⟩) (cutB s 3000).size c (cutB s 3000).data.toList →
            Calls Try.prog 21 #[.pointer (some ⟨g, 0, none⟩), .slice (some ⟨b, 0, none⟩) (cutB s 3000).size c] W (RdOut w W g xs (.int .i64 (pushS L br (cutB s 3000).data.toList).1) (pushS L br (cutB s 3000).data.toList).2.1 (pushS L br (cutB s 3000).data.toList).2.2) :=
          fun W b c h1 h2 => push_in w g xs L br _ _ c _ W h1 h2 (by omega) (by omega)
        have hP2 : ∀ (W : World) (b c : Nat), Rq W q xq L br → Bs W (some ⟨b, 0, none⟩) (cutB s 3000).size c (cutB s 3000).data.toList →
            Calls Try.prog 24 #[.pointer (some ⟨q, 0, none⟩), .slice (some ⟨b, 0, none⟩) (cutB s 3000).size c] W (RqTo W q xq (.int .i64 (pushS L br (cutB s 3000).data.toList).1) (pushS L br (cutB s 3000).data.toList).2.1 (pushS L br (cutB s 3000).data.toList).2.2) :=
          fun W b c h1 h2 => rpush_any q xq L br _ _ c _ W h1 h2 (by omega) (by omega)
        have hL2 : (pushS L br (cutB s 3000).data.toList).2.1.length ≤ 131072 := pushS_len _ _ _ hL
        have P1 := hid hP1
        have P2 := hid hP2
        have HS := hid hS
        have HT := hid (hT.same hc2)
        clear hP1 hP2 hc0 hSl hL hT hS
        generalize pushS L br (cutB s 3000).data.toList = R at *
        obtain ⟨v, L2, br2⟩ := R
        simp only at P1 P2 hL2
        generalize cutB s 3000 = S at *
        go_upto_region 8 with (refine wp_bytes rfl _ rfl S rfl (by have := HS.out; unfold maxLen; omega) ?_; intro c3 w3 hb3 hf3 hc3 hz3)
        have hO : OwnB w3 wc.heap.size S.size := fun j hj => ⟨⟨_, by have := hb3.cell (j := j) (by have := hb3.1; omega); simpa using this⟩, hf3 j (by have := hb3.2.1; omega)⟩
        have hT3 := HT.out.same hc3
        have hob : ∀ x, x = g ∨ x ∈ xs ∨ x = q ∨ x ∈ xq → x < wc.heap.size := fun x hx => by
          rcases hx with rfl | hx | rfl | hx
          · exact HT.out.rd.rd.lt
          · exact (HT.out.rd.rd.ltx _ hx).1
          · exact HT.out.rq.lt
          · exact (HT.out.rq.ltx _ hx).2
        have hge : w.heap.size ≤ wc.heap.size := HT.out.rd.chg.size
        have HSS := hid HT.out
        clear hf3 hc3 HT
        generalize wc.heap.size = ob at *
        go_wp2_with (first
          | (go_at_call 21; refine (P1.out _ _ _ hT3.rd hb3).mono ?_; rintro e w4 ⟨rfl, xs4, hr4, hc4, hx4⟩; have hT4 := hT3.left hr4 hc4 hx4)
          | (refine wp_bytes rfl _ rfl S rfl (by have := HS.out; unfold maxLen; omega) ?_; intro c5 w5 hb5 hf5 hc5 hz5; have hT5 := hT4.same hc5)
          | (go_at_call 24; refine (P2.out _ _ _ hT5.rq hb5).mono ?_; rintro e w6 ⟨rfl, xs6, hr6, hc6, hx6⟩; have hT6 := hT5.right hr6 hc6 hx6))
        have hbo : ob < w3.heap.size := hz3
        have hgo : ob ≠ g := by have := hob g (.inl rfl); omega
        have hqo : ob ≠ q := by have := hob q (.inr (.inr (.inl rfl))); omega
        have hxo : ob ∉ xs := fun hm => by have := hob ob (.inr (.inl hm)); omega
        have hqx : ob ∉ xq := fun hm => by have := hob ob (.inr (.inr (.inr hm))); omega
        have h34 := hc4.size
        have h45 := hc5.size
        have hxo4 : ob ∉ xs4 := fun hm => by
          rcases hx4 _ hm with h1 | h1
          · exact hxo h1
          · omega
        have hxo6 : ob ∉ xs6 := fun hm => by
          rcases hx6 _ hm with h1 | h1
          · exact hqx h1
          · omega
        have hO6 : OwnB w6 ob S.size := ((hO.keep hc4 hbo (by simp [hgo, hxo])).keep hc5 (by omega) (by simp)).keep hc6 (by omega) (by simp [hqo])
        have HT6 := hid hT6
        clear hO hT3 hT4 hT5 hT6 hr4 hr6 hc4 hc5 hc6 hx4 hx6 hb3 hb5 hf5 hz5 hz3 hob h34 h45 hbo P1 P2 hxo hqx
        have hS' : (S.size : Int) ≤ 3000 := by have := HS.out; omega
        go_loopw [10] (fun is wx => ∃ j : Nat, is = .int .i64 j ∧ j ≤ S.size ∧ OwnB wx ob S.size ∧ Chg w6 wx [ob]) (fun is _ => S.size - (intOf is).toNat)
        case atStart => exact ⟨0, rfl, by omega, hO6, Chg.refl _ _⟩
        case round =>
          clear hO6
          obtain ⟨j, rfl, hj, hO, hC⟩ := hrel
          have hj' : (j : Int) ≤ (S.size : Int) := by omega
          by_cases hjl : j < S.size
          · have hjl' : (j : Int) < (S.size : Int) := by omega
            obtain ⟨⟨B, hcell⟩, hfr⟩ := hO j hjl
            unfold bv at hcell
            have hB := B.toNat_lt
            generalize B.toNat = B at *
            have hB1 : (B : Int) ≤ 255 := by omega
            have hB2 := hO.set hjl _ _ (sub_byte B (by omega))
            have HB := hid hB2
            have HC := hid hC
            clear hO hB hC hB2
            go_wp2
            go_roundw
            case rel => exact ⟨j + 1, by go_num, by omega, HB.out, HC.out.setCell (by simp) _⟩
            case measure => simp [intOf]; omega
          · have hjl' : ¬ ((j : Int) < (S.size : Int)) := by omega
            have hT7 := HT6.out.turn hC (by simp; exact ⟨hge, hgo, hxo4, hqo, hxo6⟩)
            clear hO hC
            go_wp2_with fail
            go_loopw [11] (fun is wx => ∃ (i : Nat) (xs xq : List Nat) (L : List UInt8) (br : Bool), is = .int .u8 i ∧ i ≤ 6 ∧ L.length ≤ 131072 ∧ Rds w wx g xs L br q xq L br) (fun is _ => 6 - (intOf is).toNat)
            case atStart => exact ⟨0, xs4, xs6, L2, br2, rfl, by omega, hL2, hT7⟩
            case round =>
              clear hT7 HT6 hxo4 hxo6
              obtain ⟨i, xs7, xq7, L7, br7, rfl, hi6, hL7, hT8⟩ := hrel
              have hc7 := HC.out _ hT8.rd.chg 1 _ rfl
              have hi6' : (i : Int) ≤ 6 := by omega
              have hA' : (A : Int) ≤ 255 := by omega
              by_cases hlt : i < A % 7
              · have hlt' : (i : Int) < (A : Int) % 7 := by omega
                have hN := next_in w g xs7 L7 br7 _ hT8.rd (by omega)
                have hM : ∀ W, Rq W q xq7 L7 br7 → _ := fun W hW => rnext_any q xq7 L7 br7 W hW (by omega)
                have hL8 := nextS_len7 L7 br7 hL7
                generalize nextS L7 br7 = r at *
                obtain ⟨⟨kk, body, is, er⟩, L8, br8⟩ := r
                have HN := hid hN
                have HM := hid hM
                have HT8 := hid hT8
                simp only at hL8
                clear hN hM hT8
                go_wp2_with (first
                  | (go_at_call 25; refine HN.out.mono ?_; rintro e w8 ⟨a8, c8, xs8, rfl, hb8, hy8, hr8, hc8, hx8⟩; have hT9 := hid (HT8.out.left hr8 (hc8.mono (by simp)) hx8); clear hr8)
                  | (go_at_call 26; refine (HM.out _ hT9.out.rq).mono ?_; rintro e w9 ⟨a9, c9, xs9, rfl, hb9, hr9, hc9, hx9⟩; have hT10 := hid (hT9.out.right hr9 hc9 hx9)
                     have hst1 : (convert 27 9 (.slice a8 body.length c8)).run Try.prog w9 = .ok (.string (str body)) w9 := run_str (hb8.keep hc9 (sep_q HT8.out hy8))
                     have hst2 : (convert 27 9 (.slice a9 body.length c9)).run Try.prog w9 = .ok (.string (str body)) w9 := run_str hb9
                     clear hr9))
                go_roundw
                case rel => exact ⟨i + 1, xs8, xs9, L8, br8, by go_num, by omega, hL8, hT10.out⟩
                case measure => simp [intOf]; omega
              · have hlt' : ¬ ((i : Int) < (A : Int) % 7) := by omega
                have hh := fun a => held_any g xs7 L7 br7 (wr.drewN a) (hT8.same ((Chg.refl _ _).drewN' a)).rd.rd
                have hb := fun a => broken_any g xs7 L7 br7 (wr.drewN a) (hT8.same ((Chg.refl _ _).drewN' a)).rd.rd
                have HH := hid hh
                have HB := hid hb
                have HT8 := hid hT8
                obtain ⟨bo, d, hq, hbo, _, _⟩ := hT8.rq
                have q0 : wr.cell? ⟨q, 0, none⟩ = some (.slice bo L7.length d) := by rw [cell_of_row _ q 0 _ _ _ hq]; rfl
                have q1 : wr.cell? ⟨q, 1, none⟩ = some (.bool br7) := by rw [cell_of_row _ q 1 _ _ _ hq]; rfl
                clear hh hb hT8 hq hbo
                go_wp2_with fail
                go_quiet ((first | (go_at_call 22; exact Calls.quiet_of_same ((HH.out _).mono fun _ _ h => ⟨h.1, h.2.symm⟩)) | (go_at_call 27; exact Calls.quiet_of_same ((HB.out _).mono fun _ _ h => ⟨h.1, h.2.symm⟩))))
                go_wp2
                go_roundw
                case rel => exact ⟨k + 1, xs7, xq7, L7, br7, by go_num, by omega, by omega, hL7, HT8.out.same ((Chg.refl _ _).drewN' _)⟩
                case measure => simp [intOf]; omega
    · have hB := hT.rd.chg
      have HB := hid hB
      clear hT hB
      by_cases h1 : k < n
      · have h1' : (k : Int) < (n : Int) := by omega
        have h2' : ¬ ((k : Int) < 60) := by omega
        go_wp2_with (go_at_call 23; refine (works10 _).mono ?_; rintro e w10 ⟨rfl, hbel⟩)
        go_ret
        exact ⟨rfl, HB.out.then_below hbel⟩
      · have h1' : ¬ ((k : Int) < (n : Int)) := by omega
        go_wp2_with (go_at_call 23; refine (works10 _).mono ?_; rintro e w10 ⟨rfl, hbel⟩)
        go_ret
        exact ⟨rfl, HB.out.then_below hbel⟩
end Go.Proofs.Ytabdpebokpjljaa
