/- BytesOnce: for every string the law answers true, and nothing that was there has turned. No condition. -/
import Derived.Test.YtabdpebokpjljaaW6
import Derived.StillTailTactics
namespace Go.Proofs.Ytabdpebokpjljaa
open Go.RowKit

theorem textS_torn {s : St} {m : Int} (h : (textS s m).2.2 = true) : (textS s m).1 = [] := by
  unfold textS at h ⊢
  split at h
  · cases h
  · rw [if_neg (by assumption)]

/-- What stands behind a text that was taken whole. -/
theorem textS_ok {s : St} {m : Int} (h : (textS s m).2.2 = false) : s.2 = false ∧ ∃ u r, (textS s m).1 = u ∧ (textS s m).2 = (r, false) ∧ s.1 = encT u ++ r ∧ (u.length : Int) ≤ m := by
  unfold textS at h ⊢
  split at h
  · rename_i hc
    obtain ⟨h1, h2, h3, h4, h5⟩ := hc
    rw [if_pos ⟨h1, h2, h3, h4, h5⟩]
    have hl : ((s.1.drop 2).take (be (s.1.take 2))).length = be (s.1.take 2) := by simp; omega
    refine ⟨h1, _, _, rfl, rfl, ?_, by rw [hl]; exact h4⟩
    have he := enc_be (s.1.take 2)
    have h2l : (s.1.take 2).length = 2 := by simp; omega
    rw [h2l] at he
    rw [encT, hl, he, List.append_assoc, ← List.drop_drop, List.take_append_drop, List.take_append_drop]
  · cases h

theorem numS_2 {l : List UInt8} (h : (numS (l, false) 2).2.2 = false) : ∃ n r, numS (l, false) 2 = (n, (r, false)) ∧ l = enc 2 n ++ r ∧ n < 65536 := by
  unfold numS at h ⊢
  split at h
  · rename_i hc
    rw [if_pos hc]
    refine ⟨_, _, rfl, ?_, be2_lt l⟩
    have he := enc_be (l.take 2)
    have h2l : (l.take 2).length = 2 := by have := hc.2.2; simp at this ⊢; omega
    rw [h2l] at he
    show l = enc 2 (be (l.take 2)) ++ l.drop 2
    rw [he, List.take_append_drop]
  · cases h

set_option maxRecDepth 100000 in
set_option maxHeartbeats 1000000 in
theorem once_walk (s : ByteArray) (hs : s.size ≤ maxLen) (w : World) : Calls Try.prog 11 #[.string s] w (Yes w) := by
  have hS : (cutB s 500).size ≤ 500 := by rw [cutB_size]; omega
  have P0 := hid (cut04 s 500 w hs (by decide))
  clear hs
  generalize cutB s 500 = S at *
  have hl : S.data.toList.length = S.size := by rw [Array.length_toList]; rfl
  have HL := hid hl
  clear hl
  cases ht : (textS (numS (S.data.toList, false) 2).2 400).2.2 with
  | true =>
    have hu := textS_torn ht
    have p4 : ∀ (W : World) (g r : Nat), Tp W g r (S.data.toList, false) → Calls Try.prog 39 #[.pointer (some ⟨g, 0, none⟩), .int .i64 2] W (TpTo W g r (.int .u64 (numS (S.data.toList, false) 2).1) (numS (S.data.toList, false) 2).2) := fun W g r h => num_any g r _ 2 W h
    have p5 : ∀ (W : World) (g r : Nat), Tp W g r (numS (S.data.toList, false) 2).2 → Calls Try.prog 45 #[.pointer (some ⟨g, 0, none⟩), .int .i64 400] W (TpTo W g r (.string (str [])) (textS (numS (S.data.toList, false) 2).2 400).2) := fun W g r h => by have := text_any g r _ 400 W h (by decide); rwa [hu] at this
    have p6 : ∀ (W : World) (g r : Nat), Tp W g r (textS (numS (S.data.toList, false) 2).2 400).2 → Calls Try.prog 43 #[.pointer (some ⟨g, 0, none⟩)] W (fun e w' => e = .returned (.int .i64 4) ∧ W = w') := fun W g r h => by have := err_any g r _ W h; rwa [errS, ht] at this
    have P4 := hid p4
    have P5 := hid p5
    have P6 := hid p6
    clear p4 p5 p6 ht hu
    generalize (textS (numS (S.data.toList, false) 2).2 400).2 = s2 at *
    generalize (numS (S.data.toList, false) 2).2 = s1 at *
    generalize (numS (S.data.toList, false) 2).1 = n at *
    go_enter Try.func11, Try.ntmps11
    go_wp2_with (first
      | (go_at_call 28; refine P0.out.mono ?_; rintro e w0 ⟨rfl, rfl⟩)
      | (refine wp_bytes rfl _ rfl S rfl (by unfold maxLen; omega) ?_; intro c w1 hb1 hf1 hc1 hsz1)
      | (go_at_call 36; refine (newTape_any _ _ _ _ _ hb1 (by rw [HL.out]; omega)).mono ?_; rintro e w3 ⟨g, r, rfl, ht3, hchg3, hge3, hger3⟩)
      | (go_at_call 39; refine (P4.out _ _ _ ht3).mono ?_; rintro e w4 ⟨rfl, ht4, hchg4⟩)
      | (go_at_call 45; refine (P5.out _ _ _ ht4).mono ?_; rintro e w5 ⟨rfl, ht5, hchg5⟩)
      | (go_at_call 43; refine (P6.out _ _ _ ht5).mono ?_; rintro e w6 ⟨rfl, rfl⟩)
      | (go_at_call 33; refine (works04 _).mono ?_; rintro e w7 ⟨rfl, hbel⟩))
    go_ret
    have k1 := hchg3.step hchg4 (by simp; omega)
    have k2 := k1.step hchg5 (by simp; omega)
    have k3 := hc1.step k2 (by simp)
    exact ⟨rfl, k3.then_below hbel⟩
  | false =>
    obtain ⟨hn, u, rest, hu1, hu2, hu3, hu4⟩ := textS_ok ht
    obtain ⟨n, r1, hn1, hn2, hn3⟩ := numS_2 hn
    rw [hn1] at hu1 hu2 hu3
    simp only at hu1 hu2 hu3
    subst hu3
    have hlen : S.size = 4 + u.length + rest.length := by rw [← HL.out, hn2]; simp [encT, enc_length]; omega
    have p4 : ∀ (W : World) (g r : Nat), Tp W g r (S.data.toList, false) → Calls Try.prog 39 #[.pointer (some ⟨g, 0, none⟩), .int .i64 2] W (TpTo W g r (.int .u64 n) (encT u ++ rest, false)) := fun W g r h => by have := num_any g r _ 2 W h; rwa [hn1] at this
    have p5 : ∀ (W : World) (g r : Nat), Tp W g r (encT u ++ rest, false) → Calls Try.prog 45 #[.pointer (some ⟨g, 0, none⟩), .int .i64 400] W (TpTo W g r (.string (str u)) (rest, false)) := fun W g r h => by have := text_any g r _ 400 W h (by decide); rwa [hu1, hu2] at this
    have p6 : ∀ (W : World) (g r : Nat), Tp W g r (rest, false) → Calls Try.prog 43 #[.pointer (some ⟨g, 0, none⟩)] W (fun e w' => e = .returned (.int .i64 0) ∧ W = w') := fun W g r h => err_any g r _ W h
    have p7 : ∀ W : World, Calls Try.prog 29 #[.slice none 0 0, .int .i64 2, .int .u64 n] W (NewRow W (enc 2 n)) := fun W => by
      have := put_any none 0 0 [] 2 n W (Bs.nil _) (by omega) (by simp)
      rwa [encW, if_pos (by unfold mayW; omega)] at this
    have p8 : ∀ (W : World) (g c : Nat), Ow W g c (enc 2 n) → Calls Try.prog 30 #[.slice (some ⟨g, 0, none⟩) (enc 2 n).length c, .string (str u)] W (NewRowE W (enc 2 n ++ encT u) 0) := fun W g c h =>
      putText_ok _ _ _ _ _ _ h.bs (by rw [enc_length]; omega) (by rw [str_size]; omega)
    obtain ⟨k, hk⟩ : ∃ k : Nat, k = 4 + u.length := ⟨_, rfl⟩
    have hx : ((enc 2 n ++ encT u) == (S.extract 0 k).toList) = true := by
      rw [beq_iff_eq, ByteArray.toList_eq, ByteArray.data_extract, Array.toList_extract, hn2, ← List.append_assoc]
      show _ = List.take (k - 0) (List.drop 0 _)
      rw [Nat.sub_zero, List.drop_zero]
      exact (List.take_left' (by simp [encT, enc_length]; omega)).symm
    have e1 : IntKind.i64.wrap ((S.size : Int) - (rest.length : Int)) = (k : Int) := by rw [IntWalk.i64_in _ (by omega)]; omega
    have hle : (k : Int) ≤ S.size := by omega
    have P4 := hid p4
    have P5 := hid p5
    have P6 := hid p6
    have P7 := hid p7
    have P8 := hid p8
    have HS := hid hlen
    have HN := hid hn2
    clear p4 p5 p6 p7 p8 ht hn hu1 hu2 hn1 hn2 hlen hk
    generalize hg : enc 2 n ++ encT u = lay at *
    have HG := hid hg
    clear hg
    go_enter Try.func11, Try.ntmps11
    go_wp2_with (first
      | (go_at_call 28; refine P0.out.mono ?_; rintro e w0 ⟨rfl, rfl⟩)
      | (refine wp_bytes rfl _ rfl S rfl (by unfold maxLen; omega) ?_; intro c w1 hb1 hf1 hc1 hsz1)
      | (go_at_call 36; refine (newTape_any _ _ _ _ _ hb1 (by rw [HL.out]; omega)).mono ?_; rintro e w3 ⟨g, r, rfl, ht3, hchg3, hge3, hger3⟩)
      | (go_at_call 39; refine (P4.out _ _ _ ht3).mono ?_; rintro e w4 ⟨rfl, ht4, hchg4⟩)
      | (go_at_call 45; refine (P5.out _ _ _ ht4).mono ?_; rintro e w5 ⟨rfl, ht5, hchg5⟩)
      | (go_at_call 43; refine (P6.out _ _ _ ht5).mono ?_; rintro e w6 ⟨rfl, rfl⟩)
      | (go_at_call 29; refine (P7.out _).mono ?_; rintro e w7 ⟨g7, c7, rfl, hown7, hchg7, hge7⟩)
      | (go_at_call 30; refine (P8.out _ _ _ hown7).mono ?_; rintro e w8 ⟨g8, c8, rfl, hown8, hchg8, hge8⟩)
      | (go_at_call 41; refine (left_any g r _ _ ((ht5.keep hchg7 (by simp) (by simp)).keep hchg8 (by simp) (by simp))).mono ?_; rintro e w9 ⟨rfl, rfl⟩)
      | (go_at_call 33; refine (works04 _).mono ?_; rintro e w7 ⟨rfl, hbel⟩))
    have heq := run_str hown8.bs.drew
    go_still_tail 11, (by kernel_rfl)
    go_wp2_with (go_at_call 33; refine (works04 _).mono ?_; rintro e w9 ⟨rfl, hbel⟩)
    go_ret
    have k1 := hchg3.step hchg4 (by simp; omega)
    have k2 := k1.step hchg5 (by simp; omega)
    have k3 := hc1.step k2 (by simp)
    have k4 := k3.step hchg7 (by simp)
    have k5 := (k4.step hchg8 (by simp)).drew
    exact ⟨rfl, k5.then_below hbel⟩
end Go.Proofs.Ytabdpebokpjljaa
