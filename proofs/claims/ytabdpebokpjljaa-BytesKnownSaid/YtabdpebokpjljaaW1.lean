/- Walks: bytes.Put lays a number's bytes behind a copy. -/
import Derived.Test.YtabdpebokpjljaaW0
import Derived.Test.YtabdpebokpjljaaM
namespace Go.Proofs.Ytabdpebokpjljaa
open Go.RowKit

/-- The answer of Put: a row of its own. -/
def NewRow (w : World) (l : List UInt8) (e : Ending) (w' : World) : Prop :=
  ∃ g c, e = .returned (.slice (some ⟨g, 0, none⟩) l.length c) ∧ Ow w' g c l ∧ Chg w w' [] ∧ w.heap.size ≤ g

set_option maxHeartbeats 400000 in
theorem put_no (ao : Option Addr) (n1 c : Nat) (l : List UInt8) (wd : Int) (n : Int) (w : World) (hb : Bs w ao n1 c l) (hw : ¬ mayW wd) (hl : l.length ≤ 1000000) :
    Calls Try.prog 29 #[.slice ao n1 c, .int .i64 wd, .int .u64 n] w (NewRow w l) := by
  obtain rfl := hb.1
  go_enter Try.func29, Try.ntmps29
  go_wp2_with (first
    | (at_builtin; refine wp_app rfl _ _ rfl w.heap.size 0 0 [] rfl rfl (ow_empty w) ao l.length c l rfl (hb.alloc _).src (by simp; omega) ?_; intro g c' w1 hown hchg hor)
    | (go_at_call 63; refine (may_no _ _ hw).mono ?_; rintro e w' ⟨rfl, rfl⟩))
  go_ret
  refine ⟨g, c', rfl, hown, ((Chg.refl w []).alloc _).trans hchg (by simp), ?_⟩
  rcases hor with h | h
  · omega
  · simp at h; omega

theorem put_byte (n e : Nat) : Value.int .u8 ((n : Int) / 2 ^ (8 * e) % 256) = bv (UInt8.ofNat (n / 256 ^ e)) := by
  have h : (256 : Nat) ^ e = 2 ^ (8 * e) := by rw [Nat.pow_mul]
  unfold bv
  rw [UInt8.toNat_ofNat', h]
  congr 1

theorem put_rel (n wd k : Nat) (l : List UInt8) (h : k < wd) : l ++ (enc wd n).take k ++ [UInt8.ofNat (n / 256 ^ (wd - 1 - k))] = l ++ (enc wd n).take (k + 1) := by
  rw [List.append_assoc, enc_take_succ wd k n h]

set_option maxHeartbeats 400000 in
theorem put_yes (ao : Option Addr) (n1 c : Nat) (l : List UInt8) (wd : Nat) (n : Nat) (w : World) (hb : Bs w ao n1 c l) (hw : mayW wd) (_hn : n < 18446744073709551616) (hl : l.length ≤ 1000000) :
    Calls Try.prog 29 #[.slice ao n1 c, .int .i64 wd, .int .u64 n] w (NewRow w (l ++ enc wd n)) := by
  obtain rfl := hb.1
  have hwd : 1 ≤ wd ∧ wd ≤ 8 := by unfold mayW at hw; omega
  go_enter Try.func29, Try.ntmps29
  go_wp2_with (first
    | (at_builtin; refine wp_app rfl _ _ rfl w.heap.size 0 0 [] rfl rfl (ow_empty w) ao l.length c l rfl (hb.alloc _).src (by simp; omega) ?_; intro g c' w1 hown hchg hor)
    | (go_at_call 63; refine (may_yes _ _ hw).mono ?_; rintro e w' ⟨rfl, rfl⟩))
  have hB : w.heap.size ≤ g := by
    rcases hor with h | h
    · omega
    · simp at h; omega
  have hC : Chg w w1 [] := ((Chg.refl w []).alloc _).trans hchg (by simp)
  clear hchg hor
  go_loopw [7, 8] (fun v i wr => ∃ k g c, k ≤ wd ∧ i = .int .i64 (8 * ((wd : Int) - 1 - k)) ∧ v = .slice (some ⟨g, 0, none⟩) (l.length + k) c ∧ Ow wr g c (l ++ (enc wd n).take k) ∧ Chg w wr [] ∧ w.heap.size ≤ g)
     (fun _ i _ => ((intOf i) + 8).toNat)
  case atStart => exact ⟨0, g, c', by omega, by simp, rfl, by simpa using hown, hC, hB⟩
  case round => 
    obtain ⟨k, g1, c1, hk, rfl, rfl, hown1, hC1, hB1⟩ := hrel
    clear hC hB hown
    by_cases hlt : k < wd
    · have hlen : l.length + k = (l ++ (enc wd n).take k).length := by simp [enc_length]; omega
      have HL := hid hlen
      clear hlen
      go_wp2_with (at_builtin; refine wp_app rfl _ _ rfl g1 c1 (l.length + k) (l ++ (enc wd n).take k) rfl HL.out (hown1.alloc _) (some ⟨wr.heap.size, 0, none⟩) 1 1 [UInt8.ofNat (n / 256 ^ (wd - 1 - k))] rfl (Src.oneOf _ _ _ (put_byte _ _)) (by rw [← HL.out]; simp; omega) ?_; intro g c' w2 hown2 hchg2 hor2)
      rw [put_rel n wd k l hlt] at hown2
      go_roundw
      case rel => 
        refine ⟨k + 1, g, c', by omega, by go_num, rfl, hown2, (hC1.alloc _).trans hchg2 (by simp; omega), ?_⟩
        have hs := hC1.size
        simp at hor2
        omega
      case measure => simp [intOf]; omega
    · obtain rfl : k = wd := by omega
      go_wp2
      go_ret
      refine ⟨g1, c1, ?_, ?_, hC1, hB1⟩
      · simp [enc_length]
      · rwa [enc_take_all] at hown1
/-- bytes.Put, whatever the width. -/
theorem put_any (ao : Option Addr) (n1 c : Nat) (l : List UInt8) (wd : Int) (n : Nat) (w : World) (hb : Bs w ao n1 c l) (hn : n < 18446744073709551616) (hl : l.length ≤ 1000000) :
    Calls Try.prog 29 #[.slice ao n1 c, .int .i64 wd, .int .u64 n] w (NewRow w (l ++ encW wd n)) := by
  unfold encW
  by_cases hw : mayW wd
  · rw [if_pos hw]
    obtain ⟨k, rfl⟩ : ∃ k : Nat, wd = k := ⟨wd.toNat, by unfold mayW at hw; omega⟩
    exact put_yes ao n1 c l k n w hb hw hn hl
  · rw [if_neg hw, List.append_nil]
    exact put_no ao n1 c l wd n w hb hw hl
end Go.Proofs.Ytabdpebokpjljaa
