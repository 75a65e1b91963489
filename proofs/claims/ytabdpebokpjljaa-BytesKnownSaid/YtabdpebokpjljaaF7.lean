/- Walks: frame.Put and the reference's Put lay the same bytes. -/
import Derived.Test.YtabdpebokpjljaaF6
import Derived.Test.YtabdpebokpjljaaR1
namespace Go.Proofs.Ytabdpebokpjljaa
open Go.RowKit

/-- The encoding of a frame, and the error. -/
def fputS (k : Int) (b : List UInt8) : List UInt8 × Int :=
  if k < 1 ∨ 9 < k then ([], 2) else if 16384 < b.length then ([], 3) else (enc 4 (b.length + 1) ++ (enc 1 k.toNat ++ b), 0)

/-- What Put leaves. -/
def FPut (w : World) (r : List UInt8 × Int) (e : Ending) (w' : World) : Prop :=
  ∃ ao c, e = .returned (.tuple #[.slice ao r.1.length c, .int .i64 r.2]) ∧ Bs w' ao r.1.length c r.1 ∧ Chg w w' [] ∧ ∀ y, ao = some y → w.heap.size ≤ y.block

theorem enc1 (k : Nat) : enc 1 k = [UInt8.ofNat k] := by
  simp [enc]

set_option maxHeartbeats 1000000 in
theorem fput_any (k : Int) (ao : Option Addr) (n c : Nat) (b : List UInt8) (w : World) (hb : Bs w ao n c b) (hbl : b.length ≤ 900000) (hk : -9223372036854775808 ≤ k ∧ k ≤ 9223372036854775807) :
    Calls Try.prog 55 #[.int .i64 k, .slice ao n c] w (FPut w (fputS k b)) := by
  obtain rfl := hb.1
  by_cases h1 : k < 1
  · rw [show fputS k b = ([], 2) from by rw [fputS, if_pos (.inl h1)]]
    go_enter Try.func55, Try.ntmps55
    go_wp2
    go_ret2
    exact ⟨none, 0, rfl, Bs.nil _, Chg.refl _ _, by simp⟩
  · by_cases h2 : 9 < k
    · rw [show fputS k b = ([], 2) from by rw [fputS, if_pos (.inr h2)]]
      go_enter Try.func55, Try.ntmps55
      go_wp2
      go_ret2
      exact ⟨none, 0, rfl, Bs.nil _, Chg.refl _ _, by simp⟩
    · by_cases h3 : 16384 < b.length
      · rw [show fputS k b = ([], 3) from by rw [fputS, if_neg (by omega), if_pos h3]]
        have d1 : (16384 : Int) < (b.length : Int) := by omega
        go_enter Try.func55, Try.ntmps55
        go_wp2
        go_ret2
        exact ⟨none, 0, rfl, Bs.nil _, Chg.refl _ _, by simp⟩
      · rw [show fputS k b = (enc 4 (b.length + 1) ++ (enc 1 k.toNat ++ b), 0) from by rw [fputS, if_neg (by omega), if_neg h3]]
        obtain ⟨j, rfl⟩ := Int.eq_ofNat_of_zero_le (show 0 ≤ k by omega)
        rw [Int.toNat_natCast]
        have d1 : (b.length : Int) ≤ 16384 := by omega
        have d2 : (1 : Int) ≤ (j : Int) := by omega
        have d3 : (j : Int) ≤ 9 := by omega
        have p1 : ∀ W : World, Calls Try.prog 29 #[.slice none 0 0, .int .i64 4, .int .u64 ((b.length : Int) + 1)] W (NewRow W (enc 4 (b.length + 1))) := fun W => by
          have := put_any none 0 0 [] 4 (b.length + 1) W (Bs.nil _) (by omega) (by simp)
          rw [encW, if_pos (by unfold mayW; omega)] at this
          exact this
        have p2 : ∀ (W : World) (g c : Nat), Ow W g c (enc 4 (b.length + 1)) → Calls Try.prog 29 #[.slice (some ⟨g, 0, none⟩) (enc 4 (b.length + 1)).length c, .int .i64 1, .int .u64 j] W (NewRow W (enc 4 (b.length + 1) ++ enc 1 j)) := fun W g c h => by
          have := put_any _ _ c _ 1 j W h.bs (by omega) (by rw [enc_length]; omega)
          rw [encW, if_pos (by unfold mayW; omega)] at this
          exact this
        have P1 := hid p1
        have P2 := hid p2
        have hl : (enc 4 (b.length + 1) ++ (enc 1 j ++ b)).length = (enc 4 (b.length + 1) ++ enc 1 j).length + b.length := by simp only [List.length_append]; omega
        have hl2 : (enc 4 (b.length + 1) ++ enc 1 j).length ≤ 10 := by simp [enc_length]
        have HL := hid hl
        have HL2 := hid hl2
        have HA := hid (List.append_assoc (enc 4 (b.length + 1)) (enc 1 j) b)
        clear p1 p2 h1 h2 h3 hk hl hl2
        generalize enc 4 (b.length + 1) ++ (enc 1 j ++ b) = r at *
        generalize enc 4 (b.length + 1) ++ enc 1 j = l2 at *
        generalize enc 4 (b.length + 1) = l1 at *
        go_enter Try.func55, Try.ntmps55
        go_wp2_with fail
        refine (P1.out _).mono ?_
        rintro e w1 ⟨g1, c1, rfl, hown1, hchg1, hge1⟩
        go_wp2_with fail
        refine (P2.out _ _ _ hown1).mono ?_
        rintro e w2 ⟨g2, c2, rfl, hown2, hchg2, hge2⟩
        go_wp2_with (first
          | (at_builtin; refine wp_app rfl _ _ rfl g2 c2 l2.length l2 rfl rfl hown2 ao b.length c b rfl (hb.keep (hchg1.step hchg2 (by simp)) (by simp)).src (by have := HL2.out; omega) ?_; intro g3 c3 w3 hown3 hchg3 hor3))
        go_ret2
        have hs1 := hchg1.size
        have hs2 := hchg2.size
        rw [HA.out] at hown3
        have hbs := hown3.bs
        refine ⟨_, c3, ?_, hbs, (hchg1.step hchg2 (by simp)).step hchg3 (by simp; omega), fun y hy => ?_⟩
        · simp only; rw [HL.out]; rfl
        · obtain rfl := Option.some.inj hy
          simp only
          omega

set_option maxHeartbeats 1000000 in
theorem rfput_any (k : Int) (ao : Option Addr) (n c : Nat) (b : List UInt8) (w : World) (hb : Bs w ao n c b) (hbl : b.length ≤ 900000) (hk : -9223372036854775808 ≤ k ∧ k ≤ 9223372036854775807) :
    Calls Try.prog 56 #[.int .i64 k, .slice ao n c] w (FPut w (fputS k b)) := by
  obtain rfl := hb.1
  by_cases h1 : k < 1
  · rw [show fputS k b = ([], 2) from by rw [fputS, if_pos (.inl h1)]]
    go_enter Try.func56, Try.ntmps56
    go_wp2
    go_ret2
    exact ⟨none, 0, rfl, Bs.nil _, Chg.refl _ _, by simp⟩
  · by_cases h2 : 9 < k
    · rw [show fputS k b = ([], 2) from by rw [fputS, if_pos (.inr h2)]]
      go_enter Try.func56, Try.ntmps56
      go_wp2
      go_ret2
      exact ⟨none, 0, rfl, Bs.nil _, Chg.refl _ _, by simp⟩
    · by_cases h3 : 16384 < b.length
      · rw [show fputS k b = ([], 3) from by rw [fputS, if_neg (by omega), if_pos h3]]
        have d1 : (16384 : Int) < (b.length : Int) := by omega
        go_enter Try.func56, Try.ntmps56
        go_wp2
        go_ret2
        exact ⟨none, 0, rfl, Bs.nil _, Chg.refl _ _, by simp⟩
      · rw [show fputS k b = (enc 4 (b.length + 1) ++ (enc 1 k.toNat ++ b), 0) from by rw [fputS, if_neg (by omega), if_neg h3]]
        obtain ⟨j, rfl⟩ := Int.eq_ofNat_of_zero_le (show 0 ≤ k by omega)
        rw [Int.toNat_natCast, enc1 j]
        have d1 : (b.length : Int) ≤ 16384 := by omega
        have d2 : (1 : Int) ≤ (j : Int) := by omega
        have d3 : (j : Int) ≤ 9 := by omega
        have hbj : Value.int .u8 (j : Int) = bv (UInt8.ofNat j) := by
          rw [bv, UInt8.toNat_ofNat']
          congr 1
          omega
        have p1 : ∀ W : World, Calls Try.prog 32 #[.int .i64 4, .int .u64 ((b.length : Int) + 1)] W (NewRow W (enc 4 (b.length + 1))) := fun W => rnum_yes 4 (b.length + 1) W (by unfold mayW; omega) (by omega)
        have P1 := hid p1
        have HBJ := hid hbj
        have HL1 := hid (enc_length 4 (b.length + 1))
        clear p1 h1 h2 h3 hk hbj
        generalize UInt8.ofNat j = bj at *
        generalize enc 4 (b.length + 1) = l1 at *
        go_enter Try.func56, Try.ntmps56
        go_wp2_with (first
          | (go_at_call 32; refine (P1.out _).mono ?_; rintro e w1 ⟨g1, c1, rfl, hown1, hchg1, hge1⟩)
          | (at_builtin; (refine wp_app rfl _ _ rfl g1 c1 l1.length l1 rfl rfl (hown1.alloc _) (some ⟨w1.heap.size, 0, none⟩) 1 1 [bj] rfl (Src.oneOf _ _ _ HBJ.out) (by have := HL1.out; simp; omega) ?_); intro g2 c2 w2 hown2 hchg2 hor2; have k2 := (hchg1.alloc _).step hchg2 (by simp; omega))
          | (at_builtin; refine wp_app rfl _ _ rfl g2 c2 (l1.length + 1) (l1 ++ [bj]) rfl (by simp) hown2 ao b.length c b rfl (hb.keep k2 (by simp)).src (by have := HL1.out; simp; omega) ?_; intro g3 c3 w3 hown3 hchg3 hor3))
        go_ret2
        have hs1 := hchg1.size
        have hs2 := k2.size
        simp only [World.size_alloc] at hor2
        have hbs := hown3.bs
        rw [List.append_assoc] at hbs
        refine ⟨_, c3, ?_, hbs, k2.step hchg3 (by simp; omega), fun y hy => ?_⟩
        · have hl : (l1 ++ bj :: b).length = l1.length + 1 + b.length := by simp; omega
          simp only
          rw [hl]
          rfl
        · obtain rfl := Option.some.inj hy
          simp only
          omega
end Go.Proofs.Ytabdpebokpjljaa
