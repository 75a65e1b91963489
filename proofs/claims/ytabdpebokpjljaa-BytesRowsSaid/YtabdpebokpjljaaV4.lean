/- Walks: PutRow of uint32 with the law's put. -/
import Derived.Test.YtabdpebokpjljaaV3
import Derived.Test.YtabdpebokpjljaaG2
namespace Go.Proofs.Ytabdpebokpjljaa
open Go.RowKit

theorem cl35_no (v : Value) (w : World) : Calls Try.prog 35 #[v, .int .u32 99] w fun e w' => ∃ x, e = .returned (.tuple #[.slice (some ⟨x, 0, none⟩) 1 1, .int .i64 2]) ∧ Chg w w' [] := by
  have k1 := hid (fun o : Obj => (Chg.refl w []).alloc o)
  go_enter Try.func35, Try.ntmps35
  go_wp2
  go_ret2
  exact ⟨_, rfl, k1.out _⟩

theorem cl35_yes (ao : Option Addr) (m c : Nat) (l : List UInt8) (n : Nat) (w : World) (hb : Bs w ao m c l) (hl : l.length ≤ 1000000) (hn : n < 4294967296) (h99 : n ≠ 99) :
    Calls Try.prog 35 #[.slice ao m c, .int .u32 n] w (NewRowE w (l ++ enc 4 n) 0) := by
  have hP := put_any ao m c l 4 n w hb (by omega) hl
  rw [show encW 4 n = enc 4 n from by rw [encW, if_pos (by unfold mayW; omega)]; rfl] at hP
  have HP := hid hP
  have h1 : ((n : Int) == 99) = false := by simp; omega
  have hn' : (n : Int) ≤ 4294967295 := by omega
  clear hP hb hn h99
  generalize l ++ enc 4 n = lr at *
  go_enter Try.func35, Try.ntmps35
  go_wp2_with (go_at_call 29; refine HP.out.mono ?_; rintro e w2 ⟨g, d, rfl, h2, h3, h4⟩)
  go_ret2
  exact ⟨g, d, rfl, h2, h3, h4⟩

/-- The bytes of a row of numbers behind bytes. -/
def putB (b : List UInt8) (N : Nat) (L : List Nat) : List UInt8 := b ++ enc 2 N ++ L.flatMap (enc 4)
theorem putB_succ {b : List UInt8} {N k : Nat} {L : List Nat} {v : Nat} (h : L[k]? = some v) : putB b N (L.take (k + 1)) = putB b N (L.take k) ++ enc 4 v := by
  rw [List.take_add_one, h]
  simp [putB]
theorem putB_len (b : List UInt8) (N : Nat) (L : List Nat) : (putB b N L).length = b.length + 2 + L.length * 4 := by
  unfold putB
  rw [List.length_append, List.length_append, enc_length]
  congr 1
  induction L with
  | nil => rfl
  | cons x L ih => rw [List.flatMap_cons, List.length_append, ih, enc_length, List.length_cons]; omega

/-- What PutRow leaves. -/
def PutRowTo (w : World) (b : List UInt8) (N : Nat) (L : List Nat) (e : Ending) (w' : World) : Prop :=
  (99 ∈ L ∧ e = .returned (.tuple #[.slice none 0 0, .int .i64 2]) ∧ Chg w w' []) ∨ (99 ∉ L ∧ NewRowE w (putB b N L) 0 e w')

theorem AIn.u32at {w : World} {ao : Option Addr} {n : Nat} {L : List Nat} {ok : Nat → Prop} (h : AIn (fun k : Nat => [.int .u32 k]) 1 ok w ao n L) {k : Nat} (hk : k < n) :
    ∃ b o v, ao = some ⟨b, o, none⟩ ∧ L[k]? = some v ∧ ok v ∧ ∀ W, Chg w W [] → W.cell? ⟨b, o + k, none⟩ = some (.int .u32 v) := by
  obtain ⟨b, o, v, e1, _, e2, e3, e4⟩ := h.at hk
  refine ⟨b, o, v, e1, e2, e3, fun W hW => ?_⟩
  have := e4 W hW 0 _ rfl
  rwa [Nat.mul_one, Nat.add_zero] at this

set_option maxRecDepth 100000 in
set_option maxHeartbeats 2000000 in
theorem putRow_any (ao : Option Addr) (m c : Nat) (b : List UInt8) (lo : Option Addr) (N lc : Nat) (L : List Nat) (w : World) (hb : Bs w ao m c b) (hbl : b.length ≤ 1000) (h : AIn (fun k : Nat => [.int .u32 k]) 1 (· < 4294967296) w lo N L) (hN : N ≤ 300) :
    Calls Try.prog 34 #[.slice ao m c, .slice lo N lc, .func (.func 35) #[] #[]] w (PutRowTo w b N L) := by
  have hlen := hid h.len
  have HIn := hid h
  have hP := put_any ao m c b 2 N w hb (by omega) (by omega)
  rw [show encW 2 N = enc 2 N from by rw [encW, if_pos (by unfold mayW; omega)]; rfl, show b ++ enc 2 N = putB b N (L.take 0) from by simp [putB]] at hP
  have HP := hid hP
  have hN' : (N : Int) ≤ 300 := by omega
  clear h hP hb
  go_enter Try.func34, Try.ntmps34
  go_wp2_with (go_at_call 29; refine HP.out.mono ?_; rintro e w2 ⟨g, d, rfl, h2, h3, h4⟩)
  go_loopw [8, 23] (fun bs is wx => ∃ (k g d : Nat), bs = .slice (some ⟨g, 0, none⟩) (putB b N (L.take k)).length d ∧ is = .int .i64 k ∧ k ≤ N ∧ Ow wx g d (putB b N (L.take k)) ∧ Chg w wx [] ∧ w.heap.size ≤ g ∧ Hid (99 ∉ L.take k)) (fun _ is _ => N - (intOf is).toNat)
  case atStart => exact ⟨0, g, d, rfl, rfl, by omega, h2, h3, h4, hid (by simp)⟩
  case round =>
    clear h2 h3 h4 HP
    obtain ⟨k, g, d, rfl, rfl, hkN, hO, hC, hg, H99⟩ := hrel
    have hkN' : (k : Int) ≤ (N : Int) := by omega
    have hpl := putB_len b N (L.take k)
    have hkl : (L.take k).length ≤ k := List.length_take_le _ _
    by_cases hlt : k < N
    · have hlt' : (k : Int) < (N : Int) := by omega
      obtain ⟨b1, o1, v, rfl, hv, hv2, hcell⟩ := HIn.out.u32at hlt
      have hc := hcell wr hC
      have hv2 : v < 4294967296 := hv2
      have hv' : (v : Int) ≤ 4294967295 := by omega
      by_cases h99 : v = 99
      · subst h99
        have HC := hid hC
        have hmem := hid (List.mem_of_getElem? hv)
        clear hcell hv hC hO hpl hkl
        go_wp2_with (go_at_call 35; refine (cl35_no _ _).mono ?_; rintro e w3 ⟨x, rfl, h3⟩)
        go_ret2
        exact .inl ⟨hmem.out, rfl, HC.out.trans h3 (by simp)⟩
      · have hQ := cl35_yes (some ⟨g, 0, none⟩) (putB b N (L.take k)).length d _ v wr hO.bs (by omega) hv2 h99
        rw [← putB_succ hv] at hQ
        have HQ := hid hQ
        have HC := hid hC
        have H992 : Hid (99 ∉ L.take (k + 1)) := by
          show _
          rw [List.take_add_one, hv]
          intro hm
          rcases List.mem_append.1 hm with hm | hm
          · exact H99.out hm
          · simp at hm; exact h99 hm.symm
        clear hcell hv hC hO hpl hkl hQ H99 h99
        go_wp2_with (go_at_call 35; refine HQ.out.mono ?_; rintro e w3 ⟨g3, d3, rfl, h3, h4, h5⟩)
        go_roundw
        case rel => exact ⟨k + 1, g3, d3, rfl, by go_num, by omega, h3, HC.out.trans h4 (by simp), Nat.le_trans HC.out.size h5, H992⟩
        case measure => simp [intOf]; omega
    · obtain rfl : k = N := by omega
      have hlt' : ¬ ((k : Int) < (k : Int)) := by omega
      have htk := hid (List.take_of_length_le (l := L) (i := k) (by have := hlen.out; omega))
      have HO := hid hO
      have HC := hid hC
      clear hO hC hpl hkl
      go_wp2
      go_ret2
      have h99 := H99.out
      have hO := HO.out
      rw [htk.out] at h99 hO
      exact .inr ⟨h99, g, d, by rw [htk.out]; rfl, hO, HC.out, hg⟩

/-- What PutRow leaves, in one line. -/
def PutRowTo2 (w : World) (b : List UInt8) (N : Nat) (L : List Nat) (e : Ending) (w' : World) : Prop :=
  ∃ bo bl bc ev, e = .returned (.tuple #[.slice bo bl bc, .int .i64 ev]) ∧ Chg w w' [] ∧ ((99 ∈ L ∧ bl = 0 ∧ ev = 2) ∨ (99 ∉ L ∧ ev = 0 ∧ bl = (putB b N L).length ∧ Bs w' bo bl bc (putB b N L)))
theorem PutRowTo.two {w : World} {b : List UInt8} {N : Nat} {L : List Nat} {e : Ending} {w' : World} (h : PutRowTo w b N L e w') : PutRowTo2 w b N L e w' := by
  rcases h with ⟨h1, h2, h3⟩ | ⟨h1, g, c, h2, h3, h4, _⟩
  · exact ⟨none, 0, 0, 2, h2, h3, .inl ⟨h1, rfl, rfl⟩⟩
  · exact ⟨_, _, c, 0, h2, h4, .inr ⟨h1, rfl, rfl, h3.bs⟩⟩
end Go.Proofs.Ytabdpebokpjljaa
