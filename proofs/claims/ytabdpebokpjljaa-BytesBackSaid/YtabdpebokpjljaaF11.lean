/- The plain law of FrameBack: what Next hands out of the frames laid one behind the other. -/
import Derived.Test.YtabdpebokpjljaaF10
namespace Go.Proofs.Ytabdpebokpjljaa
open Go.RowKit

def encF (f : Fr) : List UInt8 := (fputS f.1 f.2.data.toList).1
def goodF (f : Fr) : Prop := (fputS f.1 f.2.data.toList).2 = 0
theorem laidB_enc (l : List Fr) : laidB l = (laidF l).flatMap encF := by
  unfold laidB laidF
  rw [List.flatMap_map]
  rfl
theorem laidF_good (l : List Fr) : ∀ f, f ∈ laidF l → goodF f := by
  intro f hf
  unfold laidF at hf
  obtain ⟨g, hg, rfl⟩ := List.mem_map.1 hf
  have := (List.mem_filter.1 hg).2
  simpa [okF, putF, goodF, cutF] using this

/-- A good frame, in full. -/
theorem goodF_enc {f : Fr} (h : goodF f) : 1 ≤ f.1 ∧ f.1 ≤ 9 ∧ f.2.data.toList.length ≤ 16384 ∧ encF f = enc 4 (f.2.data.toList.length + 1) ++ (enc 1 f.1.toNat ++ f.2.data.toList) := by
  unfold goodF encF fputS at *
  split at h
  · simp at h
  · rename_i h1
    split at h
    · simp at h
    · rename_i h2
      rw [if_neg h1, if_neg h2]
      exact ⟨by omega, by omega, by omega, rfl⟩

/-- What is held is the start of a good frame and what follows: no frame yet, or this one. -/
theorem nextS_frame {f : Fr} (h : goodF f) (held rest tail : List UInt8) (he : held ++ rest = encF f ++ tail) :
    (nextS held false = ((0, [], false, 0), held, false) ∧ held.length < (encF f).length) ∨
    ∃ h', nextS held false = ((f.1, f.2.data.toList, true, 0), h', false) ∧ h' ++ rest = tail := by
  obtain ⟨h1, h2, h3, h4⟩ := goodF_enc h
  generalize f.2.data.toList = b at *
  have hel : (encF f).length = 5 + b.length := by rw [h4]; simp [enc_length]; omega
  have htk : ∀ k, k ≤ held.length → k ≤ 5 + b.length → held.take k = (encF f).take k := fun k hk1 hk2 => by
    have := congrArg (List.take k) he
    rwa [List.take_append_of_le_length hk1, List.take_append_of_le_length (by omega)] at this
  by_cases c4 : held.length < 4
  · exact .inl ⟨by simp [nextS, c4], by omega⟩
  have t4 : held.take 4 = enc 4 (b.length + 1) := by
    rw [htk 4 (by omega) (by omega), h4, List.take_append_of_le_length (by rw [enc_length]; omega)]
    exact enc_take_all 4 _
  have hbe : be (held.take 4) = b.length + 1 := by
    rw [t4, be_enc]
    exact Nat.mod_eq_of_lt (by have : (256 : Nat) ^ 4 = 4294967296 := by decide
                               omega)
  have n1 : ¬ (b.length + 1 < 1 ∨ 16385 < b.length + 1) := by omega
  by_cases c5 : held.length < 5
  · exact .inl ⟨by unfold nextS; rw [hbe, if_neg (by decide), if_neg c4, if_neg n1, if_pos c5], by omega⟩
  have t5 : (held.getD 4 0).toNat = f.1.toNat := by
    have h5 := congrArg (fun l => l[4]?) (htk 5 (by omega) (by omega))
    simp only [List.getElem?_take, if_pos (show 4 < 5 by decide)] at h5
    rw [List.getD_eq_getElem?_getD, h5, h4, List.getElem?_append_right (by rw [enc_length]; omega), enc_length, enc1]
    simp
    omega
  have n2 : ¬ (f.1.toNat < 1 ∨ 9 < f.1.toNat) := by omega
  by_cases cp : held.length < 4 + (b.length + 1)
  · exact .inl ⟨by unfold nextS; rw [hbe, t5, if_neg (by decide), if_neg c4, if_neg n1, if_neg c5, if_neg n2, if_pos cp], by omega⟩
  right
  have hk : ((f.1.toNat : Nat) : Int) = f.1 := by omega
  refine ⟨held.drop (4 + (b.length + 1)), ?_, ?_⟩
  · unfold nextS
    rw [hbe, t5, if_neg (by decide), if_neg c4, if_neg n1, if_neg c5, if_neg n2, if_neg cp, hk]
    have e : (held.take (4 + (b.length + 1))).drop 5 = b := by
      rw [htk _ (by omega) (by omega), List.take_of_length_le (by omega), h4, ← List.append_assoc]
      exact List.drop_left' (by simp [enc_length])
    rw [e]
  · have e1 : (held ++ rest).drop (4 + (b.length + 1)) = held.drop (4 + (b.length + 1)) ++ rest := List.drop_append_of_le_length (by omega)
    have e2 : (encF f ++ tail).drop (4 + (b.length + 1)) = tail := List.drop_left' (by omega)
    rw [← e1, he, e2]

/-- What is held of fewer than four bytes: no frame. -/
theorem nextS_few (held : List UInt8) (h : held.length < 4) : nextS held false = ((0, [], false, 0), held, false) := by simp [nextS, h]
end Go.Proofs.Ytabdpebokpjljaa
