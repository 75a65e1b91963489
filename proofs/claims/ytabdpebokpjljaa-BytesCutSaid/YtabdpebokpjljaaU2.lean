/- Walks: chapter 4's helper back. -/
import Derived.Test.YtabdpebokpjljaaU1
namespace Go.Proofs.Ytabdpebokpjljaa
open Go.RowKit

/-- What is left of the tape when a thing was taken. -/
def backS (t : Th) (s : St) : St := if kindS t.1 = 4 then (textS s 300).2 else (numS s ((2 ^ kindS t.1 : Nat) : Int)).2
/-- Is it the thing? -/
def backP (t : Th) (s : St) : Prop := if kindS t.1 = 4 then (textS s 300).1 = (cutB t.2.2 300).data.toList else (numS s ((2 ^ kindS t.1 : Nat) : Int)).1 = numTh t
/-- What back leaves. -/
def BackTo (W : World) (g r : Nat) (P : Prop) (s' : St) (e : Ending) (w' : World) : Prop :=
  ∃ v : Bool, e = .returned (.bool v) ∧ (v = true ↔ P) ∧ Tp w' g r s' ∧ Chg W w' [g]

set_option maxRecDepth 100000 in
set_option maxHeartbeats 1000000 in
theorem back4 (g r : Nat) (s : St) (x : Int) (m : Nat) (z : ByteArray) (w : World) (h : Tp w g r s) (hs : z.size ≤ 9223372036854775807) (hk : kindS x = 4) :
    Calls Try.prog 54 #[.pointer (some ⟨g, 0, none⟩), .agg #[.int .i64 x, .int .u64 m, .string z]] w (BackTo w g r ((textS s 300).1 = (cutB z 300).data.toList) (textS s 300).2) := by
  have hP := fun W => kind_any x m z W
  rw [hk] at hP
  have HP := hid hP
  have HCut := hid (fun W => cut04 z 300 W hs (by omega))
  have HT := hid (fun W (hW : Tp W g r s) => text_any g r s 300 W hW (by omega))
  have hbx := boxT_new w x m z
  have k1 : Chg w (w.alloc (.cells #[.int .i64 x, .int .u64 m, .string z] 83)) [] := (Chg.refl w []).alloc _
  have hl1 : w.heap.size < (w.alloc (.cells #[.int .i64 x, .int .u64 m, .string z] 83)).heap.size := by simp
  have hgl := h.lt.1
  have hgb : w.heap.size ≠ g := by omega
  have HB := hid hbx
  obtain ⟨b0, b1, b2⟩ := hbx
  simp only at b0 b1 b2
  have K1 := hid k1
  have H := hid h
  generalize cutB z 300 = S at *
  generalize textS s 300 = R at *
  obtain ⟨lb, s'⟩ := R
  simp only at HT ⊢
  clear hP hk k1 h
  go_enter Try.func54, Try.ntmps54
  go_upto_region 2 with (go_at_call 71; refine (HP.out _).mono ?_; rintro e w2 ⟨rfl, c2⟩
                         have K2 := hid (K1.out.trans c2 (by simp))
                         have hl2 := Nat.lt_of_lt_of_le hl1 c2.size
                         have HB2 := hid ((HB.out.keep c2 hl1 (by simp)).keep (Chg.refl w2 []).drew hl2 (by simp))
                         have e2 := (HB.out.keep c2 hl1 (by simp)).2.2)
  clear b0 b1 b2
  go_region_held3 (fun W => W.cell? ⟨w.heap.size, 2, none⟩ = some (.string z))
    (first
      | go_keep
      | exact (HB2.out.keep (W := w2.drew) c3 hl2 (by simp; exact hgb)).2.2)
    (first
      | (go_at_call 45; refine (HT.out _ (H.out.keep K2.out.drew (by simp) (by simp))).mono ?_; rintro e w3 ⟨rfl, t3, c3⟩)
      | (go_at_call 28; refine (HCut.out _).mono ?_; rintro e w4 ⟨rfl, rfl⟩))
  go_wp2
  go_ret
  refine ⟨_, rfl, ?_, t3, (K2.out.drew.mono (by simp)).trans c3 (by simp)⟩
  rw [ByteArray.toList_eq]
  simp

set_option maxRecDepth 100000 in
set_option maxHeartbeats 1000000 in
theorem backN (g r : Nat) (s : St) (x : Int) (m : Nat) (z : ByteArray) (w : World) (h : Tp w g r s) (k : Nat) (hk : kindS x = k) (hk4 : k = 0 ∨ k = 1 ∨ k = 2 ∨ k = 3) :
    Calls Try.prog 54 #[.pointer (some ⟨g, 0, none⟩), .agg #[.int .i64 x, .int .u64 m, .string z]] w (BackTo w g r ((numS s ((2 ^ k : Nat) : Int)).1 = numTh (x, m, z)) (numS s ((2 ^ k : Nat) : Int)).2) := by
  have hP := fun W => kind_any x m z W
  rw [hk] at hP
  have HQ := hid (fun W => numTh_any x m z W)
  have hT := fun W (hW : Tp W g r s) => num_any g r s ((2 ^ k : Nat) : Int) W hW
  have hbx := boxT_new w x m z
  have k1 : Chg w (w.alloc (.cells #[.int .i64 x, .int .u64 m, .string z] 83)) [] := (Chg.refl w []).alloc _
  have hl1 : w.heap.size < (w.alloc (.cells #[.int .i64 x, .int .u64 m, .string z] 83)).heap.size := by simp
  have hgl := h.lt.1
  have hgb : w.heap.size ≠ g := by omega
  have HB := hid hbx
  have K1 := hid k1
  have H := hid h
  generalize numTh (x, m, z) = N at *
  generalize numS s ((2 ^ k : Nat) : Int) = R at *
  obtain ⟨v, s'⟩ := R
  simp only at hT ⊢
  clear hk k1 h
  rcases hk4 with rfl | rfl | rfl | rfl
  all_goals
    obtain ⟨b0, b1, b2⟩ := hbx
    simp only at b0 b1 b2
    simp only [Nat.reducePow] at hT
    have HP := hid hP
    have HT := hid hT
    clear hP hT
    go_enter Try.func54, Try.ntmps54
    go_upto_region 3 with (go_at_call 71; refine (HP.out _).mono ?_; rintro e w2 ⟨rfl, c2⟩
                           have K2 := hid (K1.out.trans c2 (by simp))
                           have hl2 := Nat.lt_of_lt_of_le hl1 c2.size
                           have HB2 := hid ((HB.out.keep c2 hl1 (by simp)).keep (Chg.refl w2 []).drew hl2 (by simp))
                           obtain ⟨e0, e1, e2⟩ := HB.out.keep c2 hl1 (by simp))
    clear b0 b1 b2
    go_region_held3 (fun W => W.cell? ⟨w.heap.size, 0, none⟩ = some (.int .i64 x) ∧ W.cell? ⟨w.heap.size, 1, none⟩ = some (.int .u64 m) ∧ W.cell? ⟨w.heap.size, 2, none⟩ = some (.string z))
      (first
        | go_keep
        | exact HB2.out.keep (W := w2.drew) c3 hl2 (by simp)
        | exact HB2.out.keep (W := w2.drew) ((c3.mono (T := [g]) (by simp)).trans c4 (by simp)) hl2 (by simp; exact hgb)
        | exact HB2.out.keep (W := w2.drew) (((c3.mono (T := [g]) (by simp)).trans c4 (by simp)).trans c5 (by simp)) hl2 (by simp; exact hgb))
      (first
        | (go_at_call 71; refine (HP.out _).mono ?_; rintro e w3 ⟨rfl, c3⟩)
        | (go_at_call 39; refine (HT.out _ (H.out.keep (K2.out.drew.trans c3 (by simp)) (by simp) (by simp))).mono ?_; rintro e w4 ⟨rfl, t4, c4⟩)
        | (go_at_call 72; refine (HQ.out _).mono ?_; rintro e w5 ⟨rfl, c5⟩))
    go_wp2
    go_ret
    refine ⟨_, rfl, ?_, t4.keep c5 (by simp) (by simp), (((K2.out.drew.trans c3 (by simp)).mono (by simp)).trans c4 (by simp)).trans c5 (by simp)⟩
    rw [beq_iff_eq]
    omega

/-- back: the next thing of the tape. -/
theorem backT_any (g r : Nat) (s : St) (t : Th) (w : World) (h : Tp w g r s) (ht : tok t) : Calls Try.prog 54 #[.pointer (some ⟨g, 0, none⟩), thV t] w (BackTo w g r (backP t s) (backS t s)) := by
  obtain ⟨x, m, z⟩ := t
  obtain ⟨_, _, hz⟩ := ht
  have hk := kindS_le x
  unfold backP backS
  simp only at hz ⊢
  by_cases h4 : kindS x = 4
  · rw [if_pos h4, if_pos h4]
    exact back4 g r s x m z w h hz h4
  · rw [if_neg h4, if_neg h4]
    exact backN g r s x m z w h _ rfl (by omega)

/-! ### the plain law -/
theorem cut_len (t : Th) : (cutB t.2.2 300).data.toList.length ≤ 300 := by
  rw [Array.length_toList]
  show (cutB t.2.2 300).size ≤ 300
  rw [cutB_size]; omega
theorem encTh_len (t : Th) : (encTh t).length ≤ 302 := by
  unfold encTh
  split
  · have := cut_len t
    unfold encT
    rw [List.length_append, enc_length]
    omega
  · rename_i h
    have hk := kindS_le t.1
    rw [enc_length]
    have : kindS t.1 = 0 ∨ kindS t.1 = 1 ∨ kindS t.1 = 2 ∨ kindS t.1 = 3 := by omega
    rcases this with e | e | e | e <;> rw [e] <;> decide
theorem mayW_pow {k : Nat} (h : k = 0 ∨ k = 1 ∨ k = 2 ∨ k = 3) : mayW ((2 ^ k : Nat) : Int) := by
  rcases h with rfl | rfl | rfl | rfl <;> unfold mayW <;> decide
theorem kind_cases {x : Int} (h : ¬ kindS x = 4) : kindS x = 0 ∨ kindS x = 1 ∨ kindS x = 2 ∨ kindS x = 3 := by
  have := kindS_le x; omega

/-- What was laid is taken. -/
theorem back_whole (t : Th) (ht : tok t) (rest : List UInt8) : backP t (encTh t ++ rest, false) ∧ backS t (encTh t ++ rest, false) = (rest, false) := by
  unfold backP backS encTh
  by_cases h4 : kindS t.1 = 4
  · simp only [if_pos h4]
    have hc := cut_len t
    generalize (cutB t.2.2 300).data.toList = b at *
    have hl2 : (enc 2 b.length).length = 2 := enc_length _ _
    have t2 : ((encT b ++ rest).take 2) = enc 2 b.length := by
      unfold encT
      rw [List.append_assoc]
      exact List.take_left' hl2
    have hbe : be ((encT b ++ rest).take 2) = b.length := by
      rw [t2, be_enc]
      exact Nat.mod_eq_of_lt (by have : (256 : Nat) ^ 2 = 65536 := by decide
                                 omega)
    have hlen : (encT b ++ rest).length = 2 + b.length + rest.length := by unfold encT; simp only [List.length_append, hl2]
    have e : textS (encT b ++ rest, false) 300 = (b, (rest, false)) := by
      unfold textS
      simp only [hbe]
      rw [if_pos ⟨trivial, by omega, by omega, by omega, by omega⟩]
      have d2 : (encT b ++ rest).drop 2 = b ++ rest := by
        unfold encT
        rw [List.append_assoc]
        exact List.drop_left' hl2
      have d3 : (encT b ++ rest).drop (2 + b.length) = rest := by
        rw [← List.drop_drop, d2]
        exact List.drop_left' rfl
      rw [d2, d3, List.take_left' rfl]
    rw [e]
    exact ⟨rfl, rfl⟩
  · simp only [if_neg h4]
    have hk := kind_cases h4
    have hw := mayW_pow hk
    have hl : (enc (2 ^ kindS t.1) t.2.1).length = 2 ^ kindS t.1 := enc_length _ _
    have e : numS (enc (2 ^ kindS t.1) t.2.1 ++ rest, false) ((2 ^ kindS t.1 : Nat) : Int) = (t.2.1 % 256 ^ (2 ^ kindS t.1), (rest, false)) := by
      unfold numS
      simp only [Int.toNat_natCast]
      rw [if_pos ⟨trivial, hw, by rw [List.length_append, hl]; omega⟩, List.take_left' hl, List.drop_left' hl, be_enc]
    rw [e]
    refine ⟨?_, rfl⟩
    simp only
    have h64 := ht.2.1
    unfold numTh
    rcases hk with h | h | h | h
    · rw [h, if_pos rfl]
    · rw [h, if_neg (by decide), if_pos rfl]
    · rw [h, if_neg (by decide), if_neg (by decide), if_pos rfl]
    · rw [h, if_neg (by decide), if_neg (by decide), if_neg (by decide)]
      exact Nat.mod_eq_of_lt (by have : (256 : Nat) ^ (2 ^ 3) = 18446744073709551616 := by decide
                                 omega)

/-- What was cut off tears the tape. -/
theorem back_torn (t : Th) (p q rest : List UInt8) (he : p ++ q = encTh t ++ rest) (hl : p.length < (encTh t).length) : (backS t (p, false)).2 = true := by
  unfold backS
  unfold encTh at he hl
  by_cases h4 : kindS t.1 = 4
  · simp only [if_pos h4] at he hl ⊢
    have hc := cut_len t
    generalize (cutB t.2.2 300).data.toList = b at *
    have hl2 : (enc 2 b.length).length = 2 := enc_length _ _
    unfold textS
    split
    · rename_i h
      obtain ⟨_, _, h2, h3, h5⟩ := h
      simp only at h2 h3 h5
      have t2 : p.take 2 = enc 2 b.length := by
        have := congrArg (List.take 2) he
        rw [List.take_append_of_le_length h2] at this
        rw [this]
        unfold encT
        rw [List.append_assoc]
        exact List.take_left' hl2
      have hlt : (encT b).length = 2 + b.length := by unfold encT; simp [hl2]
      rw [t2, be_enc] at h3 h5
      have h256 : (256 : Nat) ^ 2 = 65536 := by decide
      rw [h256] at h3 h5
      have hm := Nat.mod_lt b.length (show 0 < 65536 by decide)
      rw [hlt] at hl
      rw [Nat.mod_eq_of_lt (by omega)] at h5; omega
    · rfl
  · simp only [if_neg h4] at he hl ⊢
    rw [enc_length] at hl
    unfold numS
    rw [if_neg (fun hx => by have := hx.2.2; rw [Int.toNat_natCast] at this; simp only at this; omega)]

/-- The bytes of things, one behind the other. -/
def laidT (l : List Th) : List UInt8 := l.flatMap encTh
theorem laidT_len (l : List Th) : (laidT l).length ≤ l.length * 302 := by
  unfold laidT
  induction l with
  | nil => simp
  | cons t l ih =>
    have := encTh_len t
    rw [List.flatMap_cons, List.length_append, List.length_cons]
    omega
theorem laidT_succ {l : List Th} {k : Nat} {t : Th} (h : l[k]? = some t) : laidT (l.take (k + 1)) = laidT (l.take k) ++ encTh t := by
  rw [List.take_add_one, h]
  simp [laidT]
theorem laidT_drop {l : List Th} {k : Nat} {t : Th} (h : l[k]? = some t) : laidT (l.drop k) = encTh t ++ laidT (l.drop (k + 1)) := by
  obtain ⟨hk, rfl⟩ := List.getElem?_eq_some_iff.1 h
  unfold laidT
  rw [List.drop_eq_getElem_cons hk, List.flatMap_cons]
end Go.Proofs.Ytabdpebokpjljaa
