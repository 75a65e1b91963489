/- Walks: the reference's numbers and texts (caravanref04.May, Num, Text). -/
import Derived.Test.YtabdpebokpjljaaW6
import Derived.Test.YtabdpebokpjljaaN
namespace Go.Proofs.Ytabdpebokpjljaa
open Go.RowKit

theorem rmay_yes (n : Int) (w : World) (h : mayW n) :
    Calls Try.prog 64 #[.int .i64 n] w fun e w' => e = .returned (.bool true) ∧ w = w' := by
  unfold mayW at h
  rcases h with rfl | rfl | rfl | rfl
  all_goals
    go_enter Try.func64, Try.ntmps64
    go_wp2
    go_ret
    exact ⟨rfl, rfl⟩

set_option maxHeartbeats 400000 in
theorem rmay_no (n : Int) (w : World) (h : ¬ mayW n) :
    Calls Try.prog 64 #[.int .i64 n] w fun e w' => e = .returned (.bool false) ∧ w = w' := by
  unfold mayW at h
  have h1 : (n == 1) = false := by simp; omega
  have h2 : (n == 2) = false := by simp; omega
  have h3 : (n == 4) = false := by simp; omega
  have h4 : (n == 8) = false := by simp; omega
  go_enter Try.func64, Try.ntmps64
  go_wp2
  go_ret
  exact ⟨rfl, rfl⟩

theorem set_replicate (m : Nat) (t : List UInt8) (b : UInt8) : (List.replicate (m + 1) 0 ++ t).set m b = List.replicate m 0 ++ b :: t := by
  rw [List.set_append_left _ _ (by simp)]
  have : (List.replicate (m + 1) (0 : UInt8)).set m b = List.replicate m 0 ++ [b] := by
    rw [List.replicate_succ', List.set_append_right _ _ (by simp)]
    simp
  rw [this]; simp

theorem rnum_byte (n k : Nat) : Value.int .u8 (((n / 256 ^ k : Nat) : Int) % 256) = bv (UInt8.ofNat (n / 256 ^ k)) := by
  rw [bv, UInt8.toNat_ofNat']
  congr 1

set_option maxHeartbeats 400000 in
theorem rnum_yes (wd n : Nat) (w : World) (hw : mayW wd) (hn : n < 18446744073709551616) :
    Calls Try.prog 32 #[.int .i64 wd, .int .u64 n] w (NewRow w (enc wd n)) := by
  have hwd : 1 ≤ wd ∧ wd ≤ 8 := by unfold mayW at hw; omega
  have HN := hid hn
  clear hn
  go_enter Try.func32, Try.ntmps32
  go_wp2_with (first
    | (go_at_call 64; refine (rmay_yes _ _ hw).mono ?_; rintro e w' ⟨rfl, rfl⟩)
    | (at_make; refine wp_make rfl _ _ rfl wd _ _ _ _ rfl rfl rfl rfl (by omega) ?_; intro w1 hown hchg))
  go_loopw [1, 6] (fun v i wr => ∃ k, k ≤ wd ∧ i = .int .i64 ((wd : Int) - 1 - k) ∧ v = .int .u64 ((n / 256 ^ k : Nat) : Int) ∧ Ow wr w.heap.size wd (List.replicate (wd - k) 0 ++ enc k n) ∧ Chg w wr [])
     (fun _ i _ => ((intOf i) + 1).toNat)
  case atStart => exact ⟨0, by omega, by simp, by simp, by simpa [enc] using hown, hchg⟩
  case round =>
    obtain ⟨k, hk, rfl, rfl, hown1, hC1⟩ := hrel
    clear hown hchg
    have hlen : (List.replicate (wd - k) (0 : UInt8) ++ enc k n).length = wd := by simp [enc_length]; omega
    by_cases hlt : k < wd
    · have hj : wd - 1 - k < (List.replicate (wd - k) (0 : UInt8) ++ enc k n).length := by omega
      obtain ⟨bb, hc⟩ : ∃ bb, wr.cell? ⟨w.heap.size, wd - 1 - k, none⟩ = some (bv bb) := ⟨_, hown1.cellAt hj⟩
      have hf := Own.frozenAt hown1 (wd - 1 - k)
      have hset := hown1.set (wd - 1 - k) _ _ (rnum_byte n k)
      have hL := hid hlen
      clear hlen hj
      have e0 : wd - k = wd - 1 - k + 1 := by omega
      rw [e0, set_replicate] at hset
      clear e0
      have HS := hid hset
      clear hset
      have e2 : n / 256 ^ k / 256 = n / 256 ^ (k + 1) := by rw [Nat.pow_succ, Nat.div_div_eq_div_mul]
      have E2 := hid e2
      clear e2
      generalize hq : n / 256 ^ k = q at *
      unfold bv at hc
      go_wp2
      go_roundw
      case rel =>
        refine ⟨k + 1, by omega, by go_num, ?_, ?_, hC1.setCell (by simp) _⟩
        · have hle : q ≤ n := by rw [← hq]; exact Nat.div_le_self _ _
          have hn := HN.out
          have hw : IntKind.u64.wrap ((q : Int) / 256) = ((q / 256 : Nat) : Int) := by rw [IntKind.wrap_u64]; omega
          rw [hw, E2.out]
        · have HS := HS.out
          rw [show wd - (k + 1) = wd - 1 - k from by omega, enc, hq]
          exact HS
      case measure => simp [intOf]; omega
    · obtain rfl : k = wd := by omega
      go_wp2
      go_ret
      rw [Nat.sub_self, List.replicate_zero, List.nil_append] at hown1
      exact ⟨w.heap.size, k, by rw [enc_length]; rfl, hown1, hC1, Nat.le_refl _⟩

set_option maxHeartbeats 400000 in
theorem rnum_no (wd : Int) (n : Int) (w : World) (hw : ¬ mayW wd) :
    Calls Try.prog 32 #[.int .i64 wd, .int .u64 n] w fun e w' => e = .returned (.slice none 0 0) ∧ w = w' := by
  go_enter Try.func32, Try.ntmps32
  go_wp2_with (go_at_call 64; refine (rmay_no _ _ hw).mono ?_; rintro e w' ⟨rfl, rfl⟩)
  go_ret
  exact ⟨rfl, rfl⟩

/-- A slice that reads as l, nothing else has turned. -/
def NewBs (w : World) (l : List UInt8) (e : Ending) (w' : World) : Prop :=
  ∃ ao c, e = .returned (.slice ao l.length c) ∧ Bs w' ao l.length c l ∧ Chg w w' []

/-- caravanref04.Num, whatever the width. -/
theorem rnum_any (wd : Int) (n : Nat) (w : World) (hn : n < 18446744073709551616) : Calls Try.prog 32 #[.int .i64 wd, .int .u64 n] w (NewBs w (encW wd n)) := by
  by_cases hw : mayW wd
  · obtain ⟨k, rfl⟩ : ∃ k : Nat, wd = k := ⟨wd.toNat, by unfold mayW at hw; omega⟩
    refine (rnum_yes k n w hw hn).mono ?_
    rintro e w' ⟨g, c, rfl, h1, h2, _⟩
    rw [encW, if_pos hw]
    exact ⟨_, _, rfl, h1.bs, h2⟩
  · refine (rnum_no wd n w hw).mono ?_
    rintro e w' ⟨rfl, rfl⟩
    rw [encW, if_neg hw]
    exact ⟨none, 0, rfl, Bs.nil _, Chg.refl _ _⟩

set_option maxHeartbeats 400000 in
theorem rtext_long (s : ByteArray) (w : World) (hs : 65535 < s.size) (hs2 : s.size ≤ 9223372036854775807) :
    Calls Try.prog 31 #[.string s] w fun e w' => e = .returned (.tuple #[.slice none 0 0, .int .i64 3]) ∧ w = w' := by
  have h1 : (65535 : Int) < (s.size : Int) := by omega
  go_enter Try.func31, Try.ntmps31
  go_wp2
  go_ret2
  exact ⟨rfl, rfl⟩

set_option maxHeartbeats 400000 in
theorem rtext_ok (s : ByteArray) (w : World) (hs : s.size ≤ 65535) :
    Calls Try.prog 31 #[.string s] w (NewRowE w (encT s.data.toList) 0) := by
  have h1 : (s.size : Int) ≤ 65535 := by omega
  have hp : ∀ W : World, Calls Try.prog 32 #[.int .i64 2, .int .u64 s.size] W (NewRow W (enc 2 s.size)) := fun W => rnum_yes 2 s.size W (by unfold mayW; omega) (by omega)
  have HP := hid hp
  clear hp
  have hdl : s.data.toList.length = s.size := by rw [Array.length_toList]; rfl
  have HD := hid hdl
  clear hdl
  have e2 : (enc 2 s.size).length = 2 := enc_length _ _
  have E2 := hid e2
  clear e2
  generalize hq : enc 2 s.size = l2 at *
  have HQ := hid hq
  clear hq
  go_enter Try.func31, Try.ntmps31
  go_wp2_with (go_at_call 32; refine (HP.out _).mono ?_; rintro e w1 ⟨g, c1, rfl, hown1, hchg1, hge1⟩)
  go_loopw [4, 5] (fun v i wr => ∃ k g c, k ≤ s.size ∧ i = .int .i64 k ∧ v = .slice (some ⟨g, 0, none⟩) (l2.length + k) c ∧ Ow wr g c (l2 ++ s.data.toList.take k) ∧ Chg w wr [] ∧ w.heap.size ≤ g)
     (fun _ i _ => s.size - (intOf i).toNat)
  case atStart => exact ⟨0, g, c1, by omega, rfl, rfl, by simpa using hown1, hchg1, hge1⟩
  case round =>
    obtain ⟨k, g2, c2, hk, rfl, rfl, hown2, hC2, hB2⟩ := hrel
    clear hown1 hchg1 hge1
    by_cases hlt : k < s.size
    · have hlt2 : k < s.data.toList.length := by rw [HD.out]; exact hlt
      have hlen : l2.length + k = (l2 ++ s.data.toList.take k).length := by simp; omega
      have HL := hid hlen
      have hsn : l2 ++ s.data.toList.take k ++ [s.data.toList[k]] = l2 ++ s.data.toList.take (k + 1) := by
        rw [List.append_assoc, List.take_succ_eq_append_getElem hlt2]
      have HSN := hid hsn
      clear hlen hsn
      go_wp2_with (at_builtin; refine wp_app rfl _ _ rfl g2 c2 (l2.length + k) (l2 ++ s.data.toList.take k) rfl HL.out (hown2.alloc _) (some ⟨wr.heap.size, 0, none⟩) 1 1 [s.data.toList[k]] rfl (Src.oneOf _ _ _ rfl) (by rw [← HL.out, E2.out]; simp; omega) ?_; intro g3 c3 w3 hown3 hchg3 hor3)
      rw [HSN.out] at hown3
      go_roundw
      case rel =>
        refine ⟨k + 1, g3, c3, by omega, by go_num, rfl, hown3, (hC2.alloc _).trans hchg3 (by simp; omega), ?_⟩
        have hs := hC2.size
        simp at hor3
        omega
      case measure => simp [intOf]; omega
    · obtain rfl : k = s.size := by omega
      go_wp2
      go_ret2
      have e : (s.data.toList).take s.size = s.data.toList := List.take_of_length_le (by rw [HD.out]; exact Nat.le_refl _)
      rw [e, ← HQ.out] at hown2
      refine ⟨g2, c2, ?_, ?_, hC2, hB2⟩
      · rw [encT, List.length_append, enc_length, HD.out]
        have := E2.out
        rw [this]
        rfl
      · rw [encT, HD.out]; exact hown2
end Go.Proofs.Ytabdpebokpjljaa
