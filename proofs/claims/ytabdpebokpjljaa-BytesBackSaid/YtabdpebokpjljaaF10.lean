/- Walks: chapter 10's helper laid. -/
import Derived.Test.YtabdpebokpjljaaF9
import Derived.Test.YtabdpebokpjljaaG0
namespace Go.Proofs.Ytabdpebokpjljaa
open Go.RowKit

def cutF (f : Fr) : Fr := (f.1, cutB f.2 2000)
def putF (f : Fr) : List UInt8 × Int := fputS f.1 (cutB f.2 2000).data.toList
def okF (f : Fr) : Bool := (putF f).2 == 0
def laidF (l : List Fr) : List Fr := (l.filter okF).map cutF
def laidB (l : List Fr) : List UInt8 := (l.filter okF).flatMap fun f => (putF f).1
theorem laid_snoc (l : List Fr) (f : Fr) : laidF (l ++ [f]) = (if okF f then laidF l ++ [cutF f] else laidF l) ∧ laidB (l ++ [f]) = (if okF f then laidB l ++ (putF f).1 else laidB l) := by
  unfold laidF laidB
  rw [List.filter_append]
  by_cases h : okF f = true
  · simp [h]
  · simp [h]
theorem laidF_len (l : List Fr) : (laidF l).length ≤ l.length := by
  unfold laidF; rw [List.length_map]; exact List.length_filter_le _ _
theorem putF_len (f : Fr) : (putF f).1.length ≤ 2005 ∧ (okF f = true → 1 ≤ (putF f).1.length) := by
  have hs : (cutB f.2 2000).data.toList.length ≤ 2000 := by rw [Array.length_toList]; show (cutB f.2 2000).size ≤ 2000; rw [cutB_size]; omega
  unfold okF putF fputS
  split
  · simp
  · split
    · simp
    · have e : ∀ (a b : List UInt8), a.length = 4 → b.length = 1 → (a ++ (b ++ (cutB f.2 2000).data.toList)).length ≤ 2005 ∧ 1 ≤ (a ++ (b ++ (cutB f.2 2000).data.toList)).length := fun a b ha hb => by
        rw [List.length_append, List.length_append]; omega
      have := e (enc 4 ((cutB f.2 2000).data.toList.length + 1)) (enc 1 f.1.toNat) (enc_length _ _) (enc_length _ _)
      exact ⟨this.1, fun _ => this.2⟩
theorem laidB_len (l : List Fr) : (laidB l).length ≤ l.length * 2005 := by
  induction l with
  | nil => simp [laidB]
  | cons f l ih =>
    unfold laidB at *
    have h1 := (putF_len f).1
    generalize (2005 : Nat) = N at *
    rw [List.filter_cons]
    split
    · simp only [List.flatMap_cons, List.length_append, List.length_cons, Nat.add_mul, Nat.one_mul]; omega
    · simp only [List.length_cons, Nat.add_mul, Nat.one_mul]; omega

/-- A slice of frames that came in. -/
abbrev FrIn (w : World) (ao : Option Addr) (n : Nat) (l : List Fr) : Prop := AIn fc 2 (fun f => f.2.size ≤ 9223372036854775807 ∧ -9223372036854775808 ≤ f.1 ∧ f.1 ≤ 9223372036854775807) w ao n l

/-- What laid leaves. -/
def LaidTo (w : World) (l : List Fr) (e : Ending) (w' : World) : Prop :=
  ∃ ao n c bo m d, e = .returned (.tuple #[.slice ao n c, .slice bo m d]) ∧ Fw w w' ao n c (laidF l) ∧ Bw w w' bo m d (laidB l) ∧ Chg w w' [] ∧ ∀ x y, ao = some x → bo = some y → x.block ≠ y.block

theorem FrIn.at {w : World} {ao : Option Addr} {n : Nat} {l : List Fr} (h : FrIn w ao n l) {k : Nat} (hk : k < n) :
    ∃ b o f, ao = some ⟨b, o, none⟩ ∧ b < w.heap.size ∧ l[k]? = some f ∧ ∀ W, Chg w W [] → W.cell? ⟨b, o + k * 2, none⟩ = some (.int .i64 f.1) ∧ W.cell? ⟨b, o + k * 2 + 1, none⟩ = some (.string f.2) := by
  obtain ⟨b, o, f, e1, e2, e3, _, e4⟩ := AIn.at h hk
  exact ⟨b, o, f, e1, e2, e3, fun W hc => ⟨e4 W hc 0 _ rfl, e4 W hc 1 _ rfl⟩⟩

theorem laid_sep {xo yo : Option Addr} {S : List Nat} (h : ∀ x y, xo = some x → yo = some y → x.block ≠ y.block) (hS : ∀ k, k ∈ S → ∃ x, xo = some x ∧ x.block = k) : ∀ y, yo = some y → y.block ∉ S := by
  intro y hy hm
  obtain ⟨x, h1, h2⟩ := hS _ hm
  exact h x y h1 hy h2
theorem laid_sep2 {w0 wr w1 : World} {xo ao : Option Addr} {n c : Nat} {l : List Fr} {S : List Nat} (hS : ∀ k, k ∈ S → ∃ x, xo = some x ∧ x.block = k) (hF : Fw w0 wr xo n c l) (hz : wr.heap.size < w1.heap.size) (hy : ∀ y, ao = some y → w1.heap.size ≤ y.block) : ∀ y, ao = some y → y.block ∉ S := by
  intro y h1 hm
  obtain ⟨x, h2, h3⟩ := hS _ hm
  have := (hF.block x h2).2
  have := hy y h1
  omega
theorem laid_step {w wr w5 w6 w7 : World} {xo yo zo vo : Option Addr} {m d p q m' d' p' q' : Nat} {lF lF' : List Fr} {lB lB' : List UInt8} {S6 S7 : List Nat} (kA : Chg w w5 []) (hs5 : wr.heap.size ≤ w5.heap.size) (hF : Fw w wr xo m d lF) (hB : Bw w wr yo p q lB)
    (hne : ∀ x y, xo = some x → yo = some y → x.block ≠ y.block) (hF6 : Fw w w6 zo m' d' lF') (hc6 : Chg w5 w6 S6) (hS6 : ∀ k, k ∈ S6 → ∃ x, xo = some x ∧ x.block = k) (hz6 : ∀ x, zo = some x → xo = some x ∨ w5.heap.size ≤ x.block)
    (_hB7 : Bw w w7 vo p' q' lB') (hc7 : Chg w6 w7 S7) (hS7 : ∀ k, k ∈ S7 → ∃ x, yo = some x ∧ x.block = k) (hz7 : ∀ x, vo = some x → yo = some x ∨ w6.heap.size ≤ x.block) :
    Chg w w7 [] ∧ Fw w w7 zo m' d' lF' ∧ ∀ x y, zo = some x → vo = some y → x.block ≠ y.block := by
  have hzy : ∀ x y, zo = some x → yo = some y → x.block ≠ y.block := fun x y hx hy => by
    rcases hz6 x hx with h | h
    · exact hne x y h hy
    · have := (hB.block y hy).2; omega
  refine ⟨(kA.step hc6 fun k hk => ?_).step hc7 fun k hk => ?_, hF6.keep hc7 fun x hx hm => ?_, fun x y hx hy => ?_⟩
  · obtain ⟨x, h1, rfl⟩ := hS6 k hk
    exact (hF.block x h1).1
  · obtain ⟨x, h1, rfl⟩ := hS7 k hk
    exact (hB.block x h1).1
  · obtain ⟨y, h1, h2⟩ := hS7 _ hm
    exact hzy x y hx h1 h2.symm
  · rcases hz7 y hy with h | h
    · exact hzy x y hx h
    · have := (hF6.block x hx).2; omega

set_option maxRecDepth 100000 in
set_option maxHeartbeats 2000000 in
theorem laid_any (ao : Option Addr) (n c : Nat) (l : List Fr) (w : World) (h : FrIn w ao n l) : Calls Try.prog 58 #[.slice ao n c] w (LaidTo w (l.take 20)) := by
  have hmax := h.max
  obtain rfl := h.len
  go_enter Try.func58, Try.ntmps58
  go_wp2_with fail
  go_loopw [4, 5, 6] (fun fs bs i wr => ∃ (k : Nat) (xo : Option Addr) (m d : Nat) (yo : Option Addr) (p q : Nat), fs = .slice xo m d ∧ bs = .slice yo p q ∧ i = .int .i64 k ∧ k ≤ l.length ∧ k ≤ 20 ∧ Chg w wr [] ∧ Fw w wr xo m d (laidF (l.take k)) ∧ Bw w wr yo p q (laidB (l.take k)) ∧ ∀ x y, xo = some x → yo = some y → x.block ≠ y.block)
    (fun _ _ i _ => 20 - (intOf i).toNat)
  case atStart => exact ⟨0, none, 0, 0, none, 0, 0, rfl, rfl, rfl, by omega, by omega, Chg.refl _ _, .inl ⟨rfl, rfl, rfl, by simp [laidF]⟩, .inl ⟨rfl, rfl, rfl, by simp [laidB]⟩, by simp⟩
  case round =>
    obtain ⟨k, xo, m, d, yo, p, q, rfl, rfl, rfl, hk1, hk2, hC, hF, hB, hne⟩ := hrel
    have hk1' : (k : Int) ≤ (l.length : Int) := by omega
    have hk2' : (k : Int) ≤ 20 := by omega
    by_cases hn : k < l.length
    · have hn' : (k : Int) < (l.length : Int) := by omega
      by_cases h20 : k < 20
      · have h20' : (k : Int) < 20 := by omega
        obtain ⟨b, o, f, rfl, hbw, hf, hcell⟩ := h.at hn
        obtain ⟨hf1, hf2, hf3⟩ := h.ok f (List.mem_of_getElem? hf)
        have htk : l.take (k + 1) = l.take k ++ [f] := by rw [List.take_add_one, hf]; rfl
        have hsn := laid_snoc (l.take k) f
        rw [← htk] at hsn
        have hpl := putF_len f
        have hS : (cutB f.2 2000).size ≤ 2000 := by rw [cutB_size]; omega
        have HP := hid (fun (W : World) (a : Option Addr) (n c : Nat) (hb : Bs W a n c (cutB f.2 2000).data.toList) => fput_any f.1 a n c _ W hb (by rw [Array.length_toList]; show (cutB f.2 2000).size ≤ 900000; omega) ⟨hf2, hf3⟩)
        change Hid (∀ W a n c, Bs W a n c (cutB f.2 2000).data.toList → Calls Try.prog 55 #[.int .i64 f.1, .slice a n c] W (FPut W (putF f))) at HP
        have HC := hid hcell
        have hc0 := hcell wr hC
        obtain ⟨hc1, hc2⟩ := hc0
        by_cases hok : okF f = true
        · rw [if_pos hok, if_pos hok] at hsn
          have HCut := hid (fun W => cut10 f.2 W hf1)
          have hr0 : (putF f).2 = 0 := by simpa [okF] using hok
          have hx1 := hpl.2 hok
          have hx2 := hpl.1
          have hbl := laidB_len (l.take k)
          have hfl := laidF_len (l.take k)
          have htl : (l.take k).length ≤ 20 := by rw [List.length_take]; omega
          have hcf : cutF f = (f.1, cutB f.2 2000) := rfl
          generalize putF f = r at *
          generalize cutF f = cf at *
          generalize cutB f.2 2000 = S at *
          obtain ⟨x, fe⟩ := r
          simp only at hr0 hx1 hx2 hsn
          subst hr0
          generalize laidF (l.take k) = lF at *
          generalize laidB (l.take k) = lB at *
          have HH := hid h
          have HF := hid hF
          have HB := hid hB
          have HCC := hid hC
          have HNE := hid hne
          have HS := hid hS
          clear h hF hB hC hne hpl hok hf htk hS hcell
          go_wp2_with (first
            | (go_at_call 76; refine (HCut.out _).mono ?_; rintro e w1 ⟨rfl, rfl⟩)
            | (refine wp_bytes rfl _ rfl S rfl (by have := HS.out; unfold maxLen; omega) ?_; intro c1 w1 hb1 hf1 hc1 hz1)
            | (go_at_call 55; refine (HP.out _ _ _ _ hb1).mono ?_; rintro e w5 ⟨a5, c5, rfl, hb5, hc5, hy5⟩; obtain ⟨hv1, hv2⟩ := HC.out w5 ((HCC.out.trans hc1 (by simp)).trans hc5 (by simp)))
            | (at_builtin; refine wp_appF rfl _ _ rfl w xo m d lF rfl ((HF.out.keep ((hc1.trans hc5 (by simp)).alloc _) (by simp))) (((HCC.out.trans hc1 (by simp)).trans hc5 (by simp)).alloc _).size cf w5.heap.size rfl (by rw [hcf]; simp [World.cell?_alloc_at]) (by rw [hcf]; simp [World.cell?_alloc_at]) (by omega) ?_; intro zo d6 w6 S6 hF6 hc6 hS6 hz6)
            | (at_builtin; refine wp_appB rfl _ _ rfl w yo p q lB rfl ((HB.out.keep ((hc1.trans hc5 (by simp)).alloc (.cells #[.int .i64 f.1, .string S] 102)) (by simp)).keep hc6 (laid_sep HNE.out hS6)) (by have h1 := (((HCC.out.trans hc1 (by simp)).trans hc5 (by simp)).alloc (.cells #[.int .i64 f.1, .string S] 102)).size; have h2 := hc6.size; omega) _ _ _ x rfl ((hb5.alloc _).keep hc6 (laid_sep2 hS6 HF.out hz1 hy5)) hx1 (by omega) ?_; intro vo d7 w7 S7 hB7 hc7 hS7 hz7))
          go_roundw
          case rel =>
            rw [hcf] at hF6
            obtain ⟨r1, r2, r3⟩ := laid_step (((HCC.out.trans hc1 (by simp)).trans hc5 (by simp)).alloc (.cells #[.int .i64 f.1, .string S] 102)) ((hc1.trans hc5 (by simp)).alloc (.cells #[.int .i64 f.1, .string S] 102)).size HF.out HB.out HNE.out hF6 hc6 hS6 (by simpa using hz6) hB7 hc7 hS7 hz7
            refine ⟨k + 1, zo, m + 1, d6, vo, p + x.length, d7, rfl, rfl, by go_num, by omega, by omega, r1, ?_, ?_, r3⟩
            · rw [hsn.1, hcf]; exact r2
            · rw [hsn.2]; exact hB7
          case measure => simp [intOf]; omega
        · rw [if_neg hok, if_neg hok] at hsn
          have HCut := hid (fun W => cut10 f.2 W hf1)
          have hr0 : ¬ (putF f).2 = 0 := by simpa [okF] using hok
          generalize putF f = r at *
          generalize cutB f.2 2000 = S at *
          obtain ⟨x, fe⟩ := r
          simp only at hr0
          have HH := hid h
          have HF := hid hF
          have HB := hid hB
          have HCC := hid hC
          have HNE := hid hne
          have HS := hid hS
          clear h hF hB hC hne hpl hok hf htk hS hcell
          go_wp2_with (first
            | (go_at_call 76; refine (HCut.out _).mono ?_; rintro e w1 ⟨rfl, rfl⟩)
            | (refine wp_bytes rfl _ rfl S rfl (by have := HS.out; unfold maxLen; omega) ?_; intro c1 w1 hb1 hf1 hc1 hz1)
            | (go_at_call 55; refine (HP.out _ _ _ _ hb1).mono ?_; rintro e w5 ⟨a5, c5, rfl, hb5, hc5, hy5⟩))
          go_roundw
          case rel =>
            have k5 := hc1.trans hc5 (by simp)
            exact ⟨k + 1, xo, m, d, yo, p, q, rfl, rfl, by go_num, by omega, by omega, HCC.out.trans k5 (by simp), by rw [hsn.1]; exact HF.out.keep k5 (by simp), by rw [hsn.2]; exact HB.out.keep k5 (by simp), HNE.out⟩
          case measure => simp [intOf]; omega
      · obtain rfl : k = 20 := by omega
        go_wp2
        go_ret2
        exact ⟨xo, m, d, yo, p, q, rfl, hF, hB, hC, hne⟩
    · obtain rfl : k = l.length := by omega
      go_wp2
      go_ret2
      have e : l.take l.length = l.take 20 := by rw [List.take_of_length_le (by omega), List.take_of_length_le (by omega)]
      rw [e] at hF hB
      exact ⟨xo, m, d, yo, p, q, rfl, hF, hB, hC, hne⟩
end Go.Proofs.Ytabdpebokpjljaa
