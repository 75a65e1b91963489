/- FrameAgain: for every string the law answers true, and nothing that was there has turned. No condition. -/
import Derived.Test.YtabdpebokpjljaaF7
import Derived.Test.YtabdpebokpjljaaH
namespace Go.Proofs.Ytabdpebokpjljaa
open Go.RowKit

/-- Next of any bytes: no frame, and what is held stays; or the first frame, as Put lays it, and what is held is the rest. -/
theorem nextS_cases (l : List UInt8) : nextS l false = ((0, [], false, 0), l, false) ∨ nextS l false = ((0, [], false, 4), l, true) ∨
    ∃ (kk : Nat) (body rest : List UInt8), nextS l false = (((kk : Int), body, true, 0), rest, false) ∧ 1 ≤ kk ∧ kk ≤ 9 ∧ body.length ≤ 16384 ∧ l = (fputS (kk : Int) body).1 ++ rest ∧ (fputS (kk : Int) body).2 = 0 ∧ 1 ≤ (fputS (kk : Int) body).1.length := by
  by_cases h4 : l.length < 4
  · exact .inl (by simp [nextS, h4])
  by_cases hb : be (l.take 4) < 1 ∨ 16385 < be (l.take 4)
  · exact .inr (.inl (by unfold nextS; rw [if_neg (by decide), if_neg h4, if_pos hb]))
  by_cases h5 : l.length < 5
  · exact .inl (by unfold nextS; rw [if_neg (by decide), if_neg h4, if_neg hb, if_pos h5])
  by_cases hk : (l.getD 4 0).toNat < 1 ∨ 9 < (l.getD 4 0).toNat
  · exact .inr (.inl (by unfold nextS; rw [if_neg (by decide), if_neg h4, if_neg hb, if_neg h5, if_pos hk]))
  by_cases hp : l.length < 4 + be (l.take 4)
  · exact .inl (by unfold nextS; rw [if_neg (by decide), if_neg h4, if_neg hb, if_neg h5, if_neg hk, if_pos hp])
  refine .inr (.inr ⟨(l.getD 4 0).toNat, (l.take (4 + be (l.take 4))).drop 5, l.drop (4 + be (l.take 4)), by unfold nextS; rw [if_neg (by decide), if_neg h4, if_neg hb, if_neg h5, if_neg hk, if_neg hp], by omega, by omega, ?_, ?_, ?_, ?_⟩)
  · simp; omega
  · have hlen : ((l.take (4 + be (l.take 4))).drop 5).length = be (l.take 4) - 1 := by simp; omega
    have he : fputS ((l.getD 4 0).toNat : Int) ((l.take (4 + be (l.take 4))).drop 5) = (l.take (4 + be (l.take 4)), 0) := by
      unfold fputS
      rw [if_neg (by omega), if_neg (by rw [hlen]; omega), hlen, show be (l.take 4) - 1 + 1 = be (l.take 4) from by omega]
      have h1 : enc 4 (be (l.take 4)) = l.take 4 := by
        have := enc_be (l.take 4)
        rwa [show (l.take 4).length = 4 from by simp; omega] at this
      have h2 : enc 1 ((l.getD 4 0).toNat : Int).toNat = [l.getD 4 0] := by rw [enc1]; simp
      have h3 : l.take 4 ++ [l.getD 4 0] = l.take 5 := by
        rw [List.take_add_one (i := 4), List.getD_eq_getElem?_getD, List.getElem?_eq_getElem (by omega)]; rfl
      rw [h1, h2, ← List.append_assoc, h3]
      congr 1
      have h4' : l.take 5 = (l.take (4 + be (l.take 4))).take 5 := by rw [List.take_take]; congr 1; omega
      rw [h4', List.take_append_drop]
    rw [he]
    simp
  · have hlen : ((l.take (4 + be (l.take 4))).drop 5).length = be (l.take 4) - 1 := by simp; omega
    unfold fputS
    rw [if_neg (by omega), if_neg (by rw [hlen]; omega)]
  · have hlen : ((l.take (4 + be (l.take 4))).drop 5).length = be (l.take 4) - 1 := by simp; omega
    unfold fputS
    rw [if_neg (by omega), if_neg (by rw [hlen]; omega)]
    simp [enc_length]
    omega

/-- What holds behind each round: the row of what came out (ao, m, c reads as out), the reader. -/
structure AgT (w0 w : World) (g : Nat) (xs : List Nat) (l : List UInt8) (br : Bool) (ao : Option Addr) (m c : Nat) (out : List UInt8) : Prop where
  rd : RdIn w0 w g xs l br
  bs : Bs w ao m c out
  own : (ao = none ∧ m = 0 ∧ c = 0 ∧ out = []) ∨ ∃ x, ao = some ⟨x, 0, none⟩ ∧ Ow w x c out ∧ w0.heap.size ≤ x ∧ x ≠ g ∧ x ∉ xs

theorem AgT.keep {w0 w w' : World} {g : Nat} {xs : List Nat} {l : List UInt8} {br : Bool} {ao : Option Addr} {m c : Nat} {out : List UInt8} (h : AgT w0 w g xs l br ao m c out) (hc : Chg w w' []) : AgT w0 w' g xs l br ao m c out := by
  have hb := h.bs
  rcases h.own with ⟨rfl, rfl, rfl, rfl⟩ | ⟨x, rfl, h1, h2, h3, h4⟩
  · exact ⟨h.rd.new hc, Bs.nil _, .inl ⟨rfl, rfl, rfl, rfl⟩⟩
  · exact ⟨h.rd.new hc, hb.keep hc (by simp), .inr ⟨x, rfl, h1.keep hc (by simp), h2, h3, h4⟩⟩
theorem wp_ag {ops : Array Oper} {rest : List Oper} {o : Oper} {a : Act} {w : World} {Q : Exit → Act → World → Prop} (hgd : o.guard = none) (s x : Operand)
    (ho : o.op = .call { callee := .builtin .append, args := #[s, x], argTypes := #[27, 27] })
    {w0 : World} {g : Nat} {xs : List Nat} {l : List UInt8} {br : Bool} {ao : Option Addr} {n c : Nat} {out : List UInt8} (hT : AgT w0 w g xs l br ao n c out) (hs : a.eval s = .slice ao n c)
    (bo : Option Addr) (m cx : Nat) (b : List UInt8) (hx : a.eval x = .slice bo m cx) (hb : Bs w bo m cx b) (hb1 : 1 ≤ b.length) (hmax : out.length + b.length ≤ 10000000)
    (h : ∀ y c' w', AgT w0 w' g xs l br (some ⟨y, 0, none⟩) (out ++ b).length c' (out ++ b) → wpList Try.prog ops Q rest (a.put o.dst (.slice (some ⟨y, 0, none⟩) (out ++ b).length c')) w') :
    wpList Try.prog ops Q (o :: rest) a w := by
  have hs0 := hT.rd.chg.size
  rcases hT.own with ⟨rfl, rfl, rfl, rfl⟩ | ⟨y0, rfl, h1, h2, h3, h4⟩
  · refine wp_app_nil hgd s x ho hs bo m cx b hx hb.src (by simpa using hmax) (by omega) fun g' c' w' hown hc hge => h g' c' w' ⟨hT.rd.new hc, hown.bs, .inr ⟨g', rfl, hown, by omega, ?_, fun hm => ?_⟩⟩
    · have := hT.rd.rd.lt; omega
    · have := (hT.rd.rd.ltx g' hm).1; omega
  · have hm := hb.1
    have hn := hT.bs.1
    subst hn
    subst hm
    refine wp_app hgd s x ho y0 c _ out hs rfl h1 bo _ cx b hx hb.src hmax fun g' c' w' hown hc hor => ?_
    have := h g' c' w' ⟨hT.rd.step hc (by simp; exact fun e => h3 e.symm) (fun z hz => by simp; rintro rfl; exact h4 hz) (by simp; exact h2), hown.bs, .inr ⟨g', rfl, hown, by omega, ?_, fun hm => ?_⟩⟩
    · rwa [List.length_append] at this
    · have := hT.rd.rd.lt; omega
    · rcases hor with rfl | hor
      · exact h4 hm
      · have := (hT.rd.rd.ltx g' hm).1; omega

theorem AgT.next {w0 w w' : World} {g : Nat} {xs : List Nat} {l : List UInt8} {br : Bool} {ao : Option Addr} {m c : Nat} {out : List UInt8} (h : AgT w0 w g xs l br ao m c out) {xs' : List Nat} {l' : List UInt8} {br' : Bool}
    (hr : RdIn w0 w' g xs' l' br') (hc : Chg w w' [g]) (hx : ∀ x, x ∈ xs' → x ∈ xs ∨ w.heap.size ≤ x) : AgT w0 w' g xs' l' br' ao m c out := by
  have hb := h.bs
  rcases h.own with ⟨rfl, rfl, rfl, rfl⟩ | ⟨x, rfl, h1, h2, h3, h4⟩
  · exact ⟨hr, Bs.nil _, .inl ⟨rfl, rfl, rfl, rfl⟩⟩
  · have hl := h1.lt
    exact ⟨hr, hb.keep hc (by simp; exact h3), .inr ⟨x, rfl, h1.keep hc (by simp; exact h3), h2, h3, fun hm => by rcases hx x hm with h5 | h5; exact h4 h5; omega⟩⟩

set_option maxRecDepth 100000 in
set_option maxHeartbeats 4000000 in
theorem again_walk0 (s S : ByteArray) (L : List UInt8) (hL : S.data.toList = L) (hS : S.size ≤ 5000) (w : World)
   (hcut : (5000 < s.size ∧ s.extract 0 5000 = S) ∨ (s.size ≤ 5000 ∧ S = s)) (hs : s.size ≤ 9223372036854775807) : Calls Try.prog 17 #[.string s] w (Yes w) := by
  have hll : L.length ≤ 5000 := by rw [← hL, Array.length_toList]; exact hS
  have P1 := hid (fun (W : World) (g : Nat) (ao : Option Addr) (n c : Nat) (h : RdIn w W g [] [] false) (hb : Bs W ao n c L) => by
    have := push_in w g [] [] false ao n c L W h hb (by simp) (by omega)
    unfold pushS at this
    rw [if_neg (by decide), if_neg (by simp; omega)] at this
    exact this)
  have HLL := hid hL
  have HSS := hid hS
  have HLN := hid hll
  have hS3 : (S.size : Int) ≤ 5000 := by omega
  clear hL hS hll
  rcases hcut with ⟨h3, hx⟩ | ⟨h3, rfl⟩
  · have h3' : (5000 : Int) < (s.size : Int) := by omega
    go_enter Try.func17, Try.ntmps17
    go_wp2_with (first
      | (go_at_call 20; refine (new_in _).mono ?_; rintro e w1 ⟨g, rfl, hr1, hg1⟩)
      | (refine wp_bytes rfl _ rfl S rfl (by have := HSS.out; unfold maxLen; omega) ?_; intro c2 w2 hb2 hf2 hc2 hz2; rw [HLL.out] at hb2; have hr2 := hid (hr1.new hc2); clear hr1)
      | (go_at_call 21; refine (P1.out _ _ _ _ _ hr2.out hb2).mono ?_; rintro e w3 ⟨rfl, xs3, hr3, hc3, hx3⟩))
    clear hg1 hc2 hc3
    go_loopw [4, 5] (fun b i wr => ∃ (k : Nat) (xs : List Nat) (l : List UInt8) (ao : Option Addr) (m c : Nat) (out : List UInt8), b = .slice ao m c ∧ i = .int .i64 k ∧ k ≤ 1100 ∧ AgT w wr g xs l false ao m c out ∧ out ++ l = L)
      (fun _ i _ => 1100 - (intOf i).toNat)
    case atStart => exact ⟨0, xs3, L, none, 0, 0, [], rfl, rfl, by omega, ⟨hr3, Bs.nil _, .inl ⟨rfl, rfl, rfl, rfl⟩⟩, rfl⟩
    case round =>
      clear hr3 hr2 hb2 P1 hf2 hz2 hx3 h3' 
      obtain ⟨k, xs, l, ao, m, c, out, rfl, rfl, hk, hT, hLo⟩ := hrel
      have hk' : (k : Int) ≤ 1100 := by omega
      obtain rfl := hT.bs.1
      have hlen : out.length + l.length = S.size := by rw [← List.length_append, hLo, ← HLL.out, Array.length_toList]; rfl
      have q1 : IntKind.i64.wrap ((out.length : Int) + (l.length : Int)) = (S.size : Int) := by rw [IntWalk.i64_in _ (by omega)]; omega
      have q3 : S.extract 0 out.length = str out := by
        apply ByteArray.ext
        apply Array.toList_inj.1
        rw [str_data, ByteArray.data_extract, Array.toList_extract, HLL.out, ← hLo]
        simp
      have q2 : out.length ≤ S.size := by omega
      by_cases hlt : k < 1100
      · have hlt' : (k : Int) < 1100 := by omega
        have HN := hid (next_in w g xs l false wr hT.rd (by have := HSS.out; omega))
        rcases nextS_cases l with hn | hn | ⟨kk, body, rest, hn, hk1, hk2, hbl, hlr, hf0, hx1⟩
        · rw [hn] at HN
          clear hn
          go_wp2_with (first
            | (go_at_call 25; refine HN.out.mono ?_; rintro e w4 ⟨a4, c4, xs4, rfl, hb4, hy4, hr4, hc4, hx4⟩))
          have hT := hT.next hr4 hc4 hx4
          clear HN hb4 hy4 hr4 hc4 hx4
          refine wp_region_held_drew (S := fun W => (convert 27 9 (.slice ao out.length c)).run Try.prog W = .ok (.string (str out)) W) (by kernel_rfl) (run_str (hT.bs.drew)) (fun hS0 => ?_)
          refine take_at (i := 0) (some 51) (v := ?va0u0) rfl rfl (by kernel_rfl) (by kernel_rfl) (by kernel_rfl) (fun _ _ _ h => h) (Or.inl ⟨by rfl, ?ha0u0⟩) hS0 ?ra0u0
          case ha0u0 => (intro W hSw; (try dsimp only at hSw); go_simp; first | done | with_reducible rfl)
          try simp only [Act.put, List.setIfInBounds_toArray, List.set_cons_zero, List.set_cons_succ]
          refine take_at (i := 1) (some 52) (v := ?va0u1) rfl rfl (by kernel_rfl) (by kernel_rfl) (by kernel_rfl) (fun _ _ _ h => h) (Or.inl ⟨by rfl, ?ha0u1⟩) hS0 ?ra0u1
          case ha0u1 => (intro W hSw; (try dsimp only at hSw); go_simp; first | done | with_reducible rfl)
          try simp only [Act.put, List.setIfInBounds_toArray, List.set_cons_zero, List.set_cons_succ]
          refine take_at (i := 2) (some 53) (v := ?va0u2) rfl rfl (by kernel_rfl) (by kernel_rfl) (by kernel_rfl) (fun _ _ _ h => h) (Or.inl ⟨by rfl, ?ha0u2⟩) hS0 ?ra0u2
          case ha0u2 => (intro W hSw; (try dsimp only at hSw); go_simp; first | done | with_reducible rfl)
          try simp only [Act.put, List.setIfInBounds_toArray, List.set_cons_zero, List.set_cons_succ]
          refine take_at (i := 5) (some 56) (v := ?va0u5) rfl rfl (by kernel_rfl) (by kernel_rfl) (by kernel_rfl) (fun _ _ _ h => h) (Or.inl ⟨by rfl, ?ha0u5⟩) hS0 ?ra0u5
          case ha0u5 => (intro W hSw; (try dsimp only at hSw); go_simp; first | done | with_reducible rfl)
          try simp only [Act.put, List.setIfInBounds_toArray, List.set_cons_zero, List.set_cons_succ]
          refine take_at (i := 6) (some 57) (v := ?va0u6) rfl rfl (by kernel_rfl) (by kernel_rfl) (by kernel_rfl) (fun _ _ _ h => h) (Or.inl ⟨by rfl, ?ha0u6⟩) hS0 ?ra0u6
          case ha0u6 => (intro W hSw; (try dsimp only at hSw); go_simp; first | done | with_reducible rfl)
          try simp only [Act.put, List.setIfInBounds_toArray, List.set_cons_zero, List.set_cons_succ]
          refine wpAnyH_ready (rs := [3]) (by kernel_rfl) (by simp) ?_
          refine AllReadyH.cons (o := _) rfl (fun K hK => ?_) AllReadyH.nil
          go_simp
          refine (held_any _ _ _ _ _ (hT.rd.rd.keep (Chg.refl _ []).drew (by simp) (by simp))).mono ?_
          rintro e w5 ⟨rfl, rfl⟩
          refine hK.out _ _ hS0 (fun _ => ?_)
          clear hK K
          try simp only [Act.put, List.setIfInBounds_toArray, List.set_cons_zero, List.set_cons_succ]
          refine take_at (i := 4) (some 55) (v := ?va0v4) rfl rfl (by kernel_rfl) (by kernel_rfl) (by kernel_rfl) (fun _ _ _ h => h) (Or.inl ⟨by rfl, ?ha0v4⟩) hS0 ?ra0v4
          case ha0v4 => (intro W hSw; (try dsimp only at hSw); go_simp; first | done | with_reducible rfl)
          try simp only [Act.put, List.setIfInBounds_toArray, List.set_cons_zero, List.set_cons_succ]
          try rw [q1]
          refine take_at (i := 7) (some 58) (v := ?va0v7) rfl rfl (by kernel_rfl) (by kernel_rfl) (by kernel_rfl) (fun _ _ _ h => h) (Or.inl ⟨by rfl, ?ha0v7⟩) hS0 ?ra0v7
          case ha0v7 => (intro W hSw; (try dsimp only at hSw); go_simp; first | done | with_reducible rfl)
          try simp only [Act.put, List.setIfInBounds_toArray, List.set_cons_zero, List.set_cons_succ]
          refine take_at (i := 8) (some 59) (v := ?va0v8) rfl rfl (by kernel_rfl) (by kernel_rfl) (by kernel_rfl) (fun _ _ _ h => h) (Or.inl ⟨by rfl, ?ha0v8⟩) hS0 ?ra0v8
          case ha0v8 => (intro W hSw; (try dsimp only at hSw); go_simp; first | done | with_reducible rfl)
          try simp only [Act.put, List.setIfInBounds_toArray, List.set_cons_zero, List.set_cons_succ]
          refine take_at (i := 9) (some 60) (v := ?va0v9) rfl rfl (by kernel_rfl) (by kernel_rfl) (by kernel_rfl) (fun _ _ _ h => h) (Or.inl ⟨by rfl, ?ha0v9⟩) hS0 ?ra0v9
          case ha0v9 => (intro W hSw; (try dsimp only at hSw); go_simp; first | done | with_reducible rfl)
          try simp only [Act.put, List.setIfInBounds_toArray, List.set_cons_zero, List.set_cons_succ]
          refine take_at (i := 10) (some 61) (v := ?va0v10) rfl rfl (by kernel_rfl) (by kernel_rfl) (by kernel_rfl) (fun _ _ _ h => h) (Or.inl ⟨by rfl, ?ha0v10⟩) hS0 ?ra0v10
          case ha0v10 => (intro W hSw; (try dsimp only at hSw); go_simp; first | done | with_reducible rfl)
          try simp only [Act.put, List.setIfInBounds_toArray, List.set_cons_zero, List.set_cons_succ]
          refine take_at (i := 11) (some 62) (v := ?va0v11) rfl rfl (by kernel_rfl) (by kernel_rfl) (by kernel_rfl) (fun _ _ _ h => h) (Or.inl ⟨by rfl, ?ha0v11⟩) hS0 ?ra0v11
          case ha0v11 => (intro W hSw; (try dsimp only at hSw); go_simp; first | done | with_reducible rfl)
          try simp only [Act.put, List.setIfInBounds_toArray, List.set_cons_zero, List.set_cons_succ]
          refine take_at (i := 12) (some 63) (v := ?va0v12) rfl rfl (by kernel_rfl) (by kernel_rfl) (by kernel_rfl) (fun _ _ _ h => h) (Or.inl ⟨by rfl, ?ha0v12⟩) hS0 ?ra0v12
          case ha0v12 => (intro W hSw; (try dsimp only at hSw); go_simp; first | done | with_reducible rfl)
          try simp only [Act.put, List.setIfInBounds_toArray, List.set_cons_zero, List.set_cons_succ]
          refine take_at (i := 13) (some 64) (v := ?va0v13) rfl rfl (by kernel_rfl) (by kernel_rfl) (by kernel_rfl) (fun _ _ _ h => h) (Or.inl ⟨by rfl, ?ha0v13⟩) hS0 ?ra0v13
          case ha0v13 => (intro W hSw; (try dsimp only at hSw); go_simp; first | done | with_reducible rfl)
          try simp only [Act.put, List.setIfInBounds_toArray, List.set_cons_zero, List.set_cons_succ]
          refine take_at (i := 14) (some 65) (v := ?va0v14) rfl rfl (by kernel_rfl) (by kernel_rfl) (by kernel_rfl) (fun _ _ _ h => h) (Or.inl ⟨by rfl, ?ha0v14⟩) hS0 ?ra0v14
          case ha0v14 => (intro W hSw; (try dsimp only at hSw); go_simp; first | done | with_reducible rfl)
          try simp only [Act.put, List.setIfInBounds_toArray, List.set_cons_zero, List.set_cons_succ]
          try rw [q3]
          refine take_at (i := 15) (some 66) (v := ?va0v15) rfl rfl (by kernel_rfl) (by kernel_rfl) (by kernel_rfl) (fun _ _ _ h => h) (Or.inl ⟨by rfl, ?ha0v15⟩) hS0 ?ra0v15
          case ha0v15 => (intro W hSw; (try dsimp only at hSw); go_simp; first | done | with_reducible rfl)
          try simp only [Act.put, List.setIfInBounds_toArray, List.set_cons_zero, List.set_cons_succ]
          refine take_at (i := 16) (some 67) (v := ?va0v16) rfl rfl (by kernel_rfl) (by kernel_rfl) (by kernel_rfl) (fun _ _ _ h => h) (Or.inl ⟨by rfl, ?ha0v16⟩) hS0 ?ra0v16
          case ha0v16 => (intro W hSw; (try dsimp only at hSw); go_simp; first | done | with_reducible rfl)
          try simp only [Act.put, List.setIfInBounds_toArray, List.set_cons_zero, List.set_cons_succ]
          refine take_at (i := 17) (some 68) (v := ?va0v17) rfl rfl (by kernel_rfl) (by kernel_rfl) (by kernel_rfl) (fun _ _ _ h => h) (Or.inl ⟨by rfl, ?ha0v17⟩) hS0 ?ra0v17
          case ha0v17 => (intro W hSw; (try dsimp only at hSw); go_simp; first | done | with_reducible rfl)
          try simp only [Act.put, List.setIfInBounds_toArray, List.set_cons_zero, List.set_cons_succ]
          refine wpAnyH_ready (rs := [18]) (by kernel_rfl) (by simp) ?_
          refine AllReadyH.cons (o := _) rfl (fun K hK => ?_) AllReadyH.nil
          go_simp
          refine (works10 _).mono ?_
          rintro e w7 ⟨rfl, hbel⟩
          have hS7 := run_str (hT.bs.drew.keep (Below.chg hbel []) (by simp))
          refine hK.out _ _ hS7 (fun _ => ?_)
          clear hK K
          try simp only [Act.put, List.setIfInBounds_toArray, List.set_cons_zero, List.set_cons_succ]
          refine take_at (i := 19) (some 70) (v := ?va0v19) rfl rfl (by kernel_rfl) (by kernel_rfl) (by kernel_rfl) (fun _ _ _ h => h) (Or.inl ⟨by rfl, ?ha0v19⟩) hS7 ?ra0v19
          case ha0v19 => (intro W hSw; (try dsimp only at hSw); go_simp; first | done | with_reducible rfl)
          try simp only [Act.put, List.setIfInBounds_toArray, List.set_cons_zero, List.set_cons_succ]
          refine take_at (i := 20) (some 2) (v := ?va0v20) rfl rfl (by kernel_rfl) (by kernel_rfl) (by kernel_rfl) (fun _ _ _ h => h) (Or.inl ⟨by rfl, ?ha0v20⟩) hS7 ?ra0v20
          case ha0v20 => (intro W hSw; (try dsimp only at hSw); go_simp; first | done | with_reducible rfl)
          try simp only [Act.put, List.setIfInBounds_toArray, List.set_cons_zero, List.set_cons_succ]
          refine wpAnyH_done (by kernel_rfl) ?_ _
          go_wp2
          go_ret
          exact ⟨rfl, hT.rd.chg.drew.then_below hbel⟩
        · rw [hn] at HN
          clear hn
          go_wp2_with (first
            | (go_at_call 25; refine HN.out.mono ?_; rintro e w4 ⟨a4, c4, xs4, rfl, hb4, hy4, hr4, hc4, hx4⟩))
          have hT := hT.next hr4 hc4 hx4
          clear HN hb4 hy4 hr4 hc4 hx4
          refine wp_region_held_drew (S := fun W => (convert 27 9 (.slice ao out.length c)).run Try.prog W = .ok (.string (str out)) W) (by kernel_rfl) (run_str (hT.bs.drew)) (fun hS0 => ?_)
          refine take_at (i := 0) (some 51) (v := ?va1u0) rfl rfl (by kernel_rfl) (by kernel_rfl) (by kernel_rfl) (fun _ _ _ h => h) (Or.inl ⟨by rfl, ?ha1u0⟩) hS0 ?ra1u0
          case ha1u0 => (intro W hSw; (try dsimp only at hSw); go_simp; first | done | with_reducible rfl)
          try simp only [Act.put, List.setIfInBounds_toArray, List.set_cons_zero, List.set_cons_succ]
          refine take_at (i := 1) (some 52) (v := ?va1u1) rfl rfl (by kernel_rfl) (by kernel_rfl) (by kernel_rfl) (fun _ _ _ h => h) (Or.inl ⟨by rfl, ?ha1u1⟩) hS0 ?ra1u1
          case ha1u1 => (intro W hSw; (try dsimp only at hSw); go_simp; first | done | with_reducible rfl)
          try simp only [Act.put, List.setIfInBounds_toArray, List.set_cons_zero, List.set_cons_succ]
          refine take_at (i := 2) (some 53) (v := ?va1u2) rfl rfl (by kernel_rfl) (by kernel_rfl) (by kernel_rfl) (fun _ _ _ h => h) (Or.inl ⟨by rfl, ?ha1u2⟩) hS0 ?ra1u2
          case ha1u2 => (intro W hSw; (try dsimp only at hSw); go_simp; first | done | with_reducible rfl)
          try simp only [Act.put, List.setIfInBounds_toArray, List.set_cons_zero, List.set_cons_succ]
          refine take_at (i := 5) (some 56) (v := ?va1u5) rfl rfl (by kernel_rfl) (by kernel_rfl) (by kernel_rfl) (fun _ _ _ h => h) (Or.inl ⟨by rfl, ?ha1u5⟩) hS0 ?ra1u5
          case ha1u5 => (intro W hSw; (try dsimp only at hSw); go_simp; first | done | with_reducible rfl)
          try simp only [Act.put, List.setIfInBounds_toArray, List.set_cons_zero, List.set_cons_succ]
          refine take_at (i := 6) (some 57) (v := ?va1u6) rfl rfl (by kernel_rfl) (by kernel_rfl) (by kernel_rfl) (fun _ _ _ h => h) (Or.inl ⟨by rfl, ?ha1u6⟩) hS0 ?ra1u6
          case ha1u6 => (intro W hSw; (try dsimp only at hSw); go_simp; first | done | with_reducible rfl)
          try simp only [Act.put, List.setIfInBounds_toArray, List.set_cons_zero, List.set_cons_succ]
          refine wpAnyH_ready (rs := [3]) (by kernel_rfl) (by simp) ?_
          refine AllReadyH.cons (o := _) rfl (fun K hK => ?_) AllReadyH.nil
          go_simp
          refine (held_any _ _ _ _ _ (hT.rd.rd.keep (Chg.refl _ []).drew (by simp) (by simp))).mono ?_
          rintro e w5 ⟨rfl, rfl⟩
          refine hK.out _ _ hS0 (fun _ => ?_)
          clear hK K
          try simp only [Act.put, List.setIfInBounds_toArray, List.set_cons_zero, List.set_cons_succ]
          refine take_at (i := 4) (some 55) (v := ?va1v4) rfl rfl (by kernel_rfl) (by kernel_rfl) (by kernel_rfl) (fun _ _ _ h => h) (Or.inl ⟨by rfl, ?ha1v4⟩) hS0 ?ra1v4
          case ha1v4 => (intro W hSw; (try dsimp only at hSw); go_simp; first | done | with_reducible rfl)
          try simp only [Act.put, List.setIfInBounds_toArray, List.set_cons_zero, List.set_cons_succ]
          try rw [q1]
          refine take_at (i := 7) (some 58) (v := ?va1v7) rfl rfl (by kernel_rfl) (by kernel_rfl) (by kernel_rfl) (fun _ _ _ h => h) (Or.inl ⟨by rfl, ?ha1v7⟩) hS0 ?ra1v7
          case ha1v7 => (intro W hSw; (try dsimp only at hSw); go_simp; first | done | with_reducible rfl)
          try simp only [Act.put, List.setIfInBounds_toArray, List.set_cons_zero, List.set_cons_succ]
          refine take_at (i := 8) (some 59) (v := ?va1v8) rfl rfl (by kernel_rfl) (by kernel_rfl) (by kernel_rfl) (fun _ _ _ h => h) (Or.inl ⟨by rfl, ?ha1v8⟩) hS0 ?ra1v8
          case ha1v8 => (intro W hSw; (try dsimp only at hSw); go_simp; first | done | with_reducible rfl)
          try simp only [Act.put, List.setIfInBounds_toArray, List.set_cons_zero, List.set_cons_succ]
          refine take_at (i := 9) (some 60) (v := ?va1v9) rfl rfl (by kernel_rfl) (by kernel_rfl) (by kernel_rfl) (fun _ _ _ h => h) (Or.inl ⟨by rfl, ?ha1v9⟩) hS0 ?ra1v9
          case ha1v9 => (intro W hSw; (try dsimp only at hSw); go_simp; first | done | with_reducible rfl)
          try simp only [Act.put, List.setIfInBounds_toArray, List.set_cons_zero, List.set_cons_succ]
          refine take_at (i := 10) (some 61) (v := ?va1v10) rfl rfl (by kernel_rfl) (by kernel_rfl) (by kernel_rfl) (fun _ _ _ h => h) (Or.inl ⟨by rfl, ?ha1v10⟩) hS0 ?ra1v10
          case ha1v10 => (intro W hSw; (try dsimp only at hSw); go_simp; first | done | with_reducible rfl)
          try simp only [Act.put, List.setIfInBounds_toArray, List.set_cons_zero, List.set_cons_succ]
          refine take_at (i := 11) (some 62) (v := ?va1v11) rfl rfl (by kernel_rfl) (by kernel_rfl) (by kernel_rfl) (fun _ _ _ h => h) (Or.inl ⟨by rfl, ?ha1v11⟩) hS0 ?ra1v11
          case ha1v11 => (intro W hSw; (try dsimp only at hSw); go_simp; first | done | with_reducible rfl)
          try simp only [Act.put, List.setIfInBounds_toArray, List.set_cons_zero, List.set_cons_succ]
          refine take_at (i := 12) (some 63) (v := ?va1v12) rfl rfl (by kernel_rfl) (by kernel_rfl) (by kernel_rfl) (fun _ _ _ h => h) (Or.inl ⟨by rfl, ?ha1v12⟩) hS0 ?ra1v12
          case ha1v12 => (intro W hSw; (try dsimp only at hSw); go_simp; first | done | with_reducible rfl)
          try simp only [Act.put, List.setIfInBounds_toArray, List.set_cons_zero, List.set_cons_succ]
          refine take_at (i := 13) (some 64) (v := ?va1v13) rfl rfl (by kernel_rfl) (by kernel_rfl) (by kernel_rfl) (fun _ _ _ h => h) (Or.inl ⟨by rfl, ?ha1v13⟩) hS0 ?ra1v13
          case ha1v13 => (intro W hSw; (try dsimp only at hSw); go_simp; first | done | with_reducible rfl)
          try simp only [Act.put, List.setIfInBounds_toArray, List.set_cons_zero, List.set_cons_succ]
          refine take_at (i := 14) (some 65) (v := ?va1v14) rfl rfl (by kernel_rfl) (by kernel_rfl) (by kernel_rfl) (fun _ _ _ h => h) (Or.inl ⟨by rfl, ?ha1v14⟩) hS0 ?ra1v14
          case ha1v14 => (intro W hSw; (try dsimp only at hSw); go_simp; first | done | with_reducible rfl)
          try simp only [Act.put, List.setIfInBounds_toArray, List.set_cons_zero, List.set_cons_succ]
          try rw [q3]
          refine take_at (i := 15) (some 66) (v := ?va1v15) rfl rfl (by kernel_rfl) (by kernel_rfl) (by kernel_rfl) (fun _ _ _ h => h) (Or.inl ⟨by rfl, ?ha1v15⟩) hS0 ?ra1v15
          case ha1v15 => (intro W hSw; (try dsimp only at hSw); go_simp; first | done | with_reducible rfl)
          try simp only [Act.put, List.setIfInBounds_toArray, List.set_cons_zero, List.set_cons_succ]
          refine take_at (i := 16) (some 67) (v := ?va1v16) rfl rfl (by kernel_rfl) (by kernel_rfl) (by kernel_rfl) (fun _ _ _ h => h) (Or.inl ⟨by rfl, ?ha1v16⟩) hS0 ?ra1v16
          case ha1v16 => (intro W hSw; (try dsimp only at hSw); go_simp; first | done | with_reducible rfl)
          try simp only [Act.put, List.setIfInBounds_toArray, List.set_cons_zero, List.set_cons_succ]
          refine take_at (i := 17) (some 68) (v := ?va1v17) rfl rfl (by kernel_rfl) (by kernel_rfl) (by kernel_rfl) (fun _ _ _ h => h) (Or.inl ⟨by rfl, ?ha1v17⟩) hS0 ?ra1v17
          case ha1v17 => (intro W hSw; (try dsimp only at hSw); go_simp; first | done | with_reducible rfl)
          try simp only [Act.put, List.setIfInBounds_toArray, List.set_cons_zero, List.set_cons_succ]
          refine wpAnyH_ready (rs := [18]) (by kernel_rfl) (by simp) ?_
          refine AllReadyH.cons (o := _) rfl (fun K hK => ?_) AllReadyH.nil
          go_simp
          refine (works10 _).mono ?_
          rintro e w7 ⟨rfl, hbel⟩
          have hS7 := run_str (hT.bs.drew.keep (Below.chg hbel []) (by simp))
          refine hK.out _ _ hS7 (fun _ => ?_)
          clear hK K
          try simp only [Act.put, List.setIfInBounds_toArray, List.set_cons_zero, List.set_cons_succ]
          refine take_at (i := 19) (some 70) (v := ?va1v19) rfl rfl (by kernel_rfl) (by kernel_rfl) (by kernel_rfl) (fun _ _ _ h => h) (Or.inl ⟨by rfl, ?ha1v19⟩) hS7 ?ra1v19
          case ha1v19 => (intro W hSw; (try dsimp only at hSw); go_simp; first | done | with_reducible rfl)
          try simp only [Act.put, List.setIfInBounds_toArray, List.set_cons_zero, List.set_cons_succ]
          refine take_at (i := 20) (some 2) (v := ?va1v20) rfl rfl (by kernel_rfl) (by kernel_rfl) (by kernel_rfl) (fun _ _ _ h => h) (Or.inl ⟨by rfl, ?ha1v20⟩) hS7 ?ra1v20
          case ha1v20 => (intro W hSw; (try dsimp only at hSw); go_simp; first | done | with_reducible rfl)
          try simp only [Act.put, List.setIfInBounds_toArray, List.set_cons_zero, List.set_cons_succ]
          refine wpAnyH_done (by kernel_rfl) ?_ _
          go_wp2
          go_ret
          exact ⟨rfl, hT.rd.chg.drew.then_below hbel⟩
        · rw [hn] at HN
          have HP := hid (fun (W : World) (a : Option Addr) (c : Nat) (h : Bs W a body.length c body) => fput_any (kk : Int) a body.length c body W h (by omega) (by omega))
          generalize fputS (kk : Int) body = r at *
          obtain ⟨x, fe⟩ := r
          simp only at hlr hf0 hx1
          subst hf0 hlr
          have hox : out.length + x.length ≤ 5000 := by
            have h1 := congrArg List.length hLo
            have h2 := HLN.out
            simp only [List.length_append] at h1
            omega
          clear hn hbl
          go_wp2_with (first
            | (go_at_call 25; refine HN.out.mono ?_; rintro e w4 ⟨a4, c4, xs4, rfl, hb4, hy4, hr4, hc4, hx4⟩; have hT := hT.next hr4 hc4 hx4; clear hr4 hc4 hx4 hy4)
            | (go_at_call 55; refine (HP.out _ _ _ hb4).mono ?_; rintro e w5 ⟨a5, c5, rfl, hb5, hc5, hy5⟩; have hT := hT.keep hc5; clear hc5 hb4 hy5)
            | (at_builtin; refine wp_ag rfl _ _ rfl hT rfl _ _ _ x rfl hb5 hx1 (by omega) ?_; intro y6 c6 w6 hT))
          go_roundw
          case rel => exact ⟨k + 1, xs4, rest, _, (out ++ x).length, c6, out ++ x, by rw [List.length_append], by go_num, by omega, hT, by rw [List.append_assoc]; exact hLo⟩
          case measure => simp [intOf]; omega
      · obtain rfl : k = 1100 := by omega
        go_wp2
        refine wp_region_held_drew (S := fun W => (convert 27 9 (.slice ao out.length c)).run Try.prog W = .ok (.string (str out)) W) (by kernel_rfl) (run_str (hT.bs.drew)) (fun hS0 => ?_)
        refine take_at (i := 0) (some 51) (v := ?va2u0) rfl rfl (by kernel_rfl) (by kernel_rfl) (by kernel_rfl) (fun _ _ _ h => h) (Or.inl ⟨by rfl, ?ha2u0⟩) hS0 ?ra2u0
        case ha2u0 => (intro W hSw; (try dsimp only at hSw); go_simp; first | done | with_reducible rfl)
        try simp only [Act.put, List.setIfInBounds_toArray, List.set_cons_zero, List.set_cons_succ]
        refine take_at (i := 1) (some 52) (v := ?va2u1) rfl rfl (by kernel_rfl) (by kernel_rfl) (by kernel_rfl) (fun _ _ _ h => h) (Or.inl ⟨by rfl, ?ha2u1⟩) hS0 ?ra2u1
        case ha2u1 => (intro W hSw; (try dsimp only at hSw); go_simp; first | done | with_reducible rfl)
        try simp only [Act.put, List.setIfInBounds_toArray, List.set_cons_zero, List.set_cons_succ]
        refine take_at (i := 2) (some 53) (v := ?va2u2) rfl rfl (by kernel_rfl) (by kernel_rfl) (by kernel_rfl) (fun _ _ _ h => h) (Or.inl ⟨by rfl, ?ha2u2⟩) hS0 ?ra2u2
        case ha2u2 => (intro W hSw; (try dsimp only at hSw); go_simp; first | done | with_reducible rfl)
        try simp only [Act.put, List.setIfInBounds_toArray, List.set_cons_zero, List.set_cons_succ]
        refine take_at (i := 5) (some 56) (v := ?va2u5) rfl rfl (by kernel_rfl) (by kernel_rfl) (by kernel_rfl) (fun _ _ _ h => h) (Or.inl ⟨by rfl, ?ha2u5⟩) hS0 ?ra2u5
        case ha2u5 => (intro W hSw; (try dsimp only at hSw); go_simp; first | done | with_reducible rfl)
        try simp only [Act.put, List.setIfInBounds_toArray, List.set_cons_zero, List.set_cons_succ]
        refine take_at (i := 6) (some 57) (v := ?va2u6) rfl rfl (by kernel_rfl) (by kernel_rfl) (by kernel_rfl) (fun _ _ _ h => h) (Or.inl ⟨by rfl, ?ha2u6⟩) hS0 ?ra2u6
        case ha2u6 => (intro W hSw; (try dsimp only at hSw); go_simp; first | done | with_reducible rfl)
        try simp only [Act.put, List.setIfInBounds_toArray, List.set_cons_zero, List.set_cons_succ]
        refine wpAnyH_ready (rs := [3]) (by kernel_rfl) (by simp) ?_
        refine AllReadyH.cons (o := _) rfl (fun K hK => ?_) AllReadyH.nil
        go_simp
        refine (held_any _ _ _ _ _ (hT.rd.rd.keep (Chg.refl _ []).drew (by simp) (by simp))).mono ?_
        rintro e w5 ⟨rfl, rfl⟩
        refine hK.out _ _ hS0 (fun _ => ?_)
        clear hK K
        try simp only [Act.put, List.setIfInBounds_toArray, List.set_cons_zero, List.set_cons_succ]
        refine take_at (i := 4) (some 55) (v := ?va2v4) rfl rfl (by kernel_rfl) (by kernel_rfl) (by kernel_rfl) (fun _ _ _ h => h) (Or.inl ⟨by rfl, ?ha2v4⟩) hS0 ?ra2v4
        case ha2v4 => (intro W hSw; (try dsimp only at hSw); go_simp; first | done | with_reducible rfl)
        try simp only [Act.put, List.setIfInBounds_toArray, List.set_cons_zero, List.set_cons_succ]
        try rw [q1]
        refine take_at (i := 7) (some 58) (v := ?va2v7) rfl rfl (by kernel_rfl) (by kernel_rfl) (by kernel_rfl) (fun _ _ _ h => h) (Or.inl ⟨by rfl, ?ha2v7⟩) hS0 ?ra2v7
        case ha2v7 => (intro W hSw; (try dsimp only at hSw); go_simp; first | done | with_reducible rfl)
        try simp only [Act.put, List.setIfInBounds_toArray, List.set_cons_zero, List.set_cons_succ]
        refine take_at (i := 8) (some 59) (v := ?va2v8) rfl rfl (by kernel_rfl) (by kernel_rfl) (by kernel_rfl) (fun _ _ _ h => h) (Or.inl ⟨by rfl, ?ha2v8⟩) hS0 ?ra2v8
        case ha2v8 => (intro W hSw; (try dsimp only at hSw); go_simp; first | done | with_reducible rfl)
        try simp only [Act.put, List.setIfInBounds_toArray, List.set_cons_zero, List.set_cons_succ]
        refine take_at (i := 9) (some 60) (v := ?va2v9) rfl rfl (by kernel_rfl) (by kernel_rfl) (by kernel_rfl) (fun _ _ _ h => h) (Or.inl ⟨by rfl, ?ha2v9⟩) hS0 ?ra2v9
        case ha2v9 => (intro W hSw; (try dsimp only at hSw); go_simp; first | done | with_reducible rfl)
        try simp only [Act.put, List.setIfInBounds_toArray, List.set_cons_zero, List.set_cons_succ]
        refine take_at (i := 10) (some 61) (v := ?va2v10) rfl rfl (by kernel_rfl) (by kernel_rfl) (by kernel_rfl) (fun _ _ _ h => h) (Or.inl ⟨by rfl, ?ha2v10⟩) hS0 ?ra2v10
        case ha2v10 => (intro W hSw; (try dsimp only at hSw); go_simp; first | done | with_reducible rfl)
        try simp only [Act.put, List.setIfInBounds_toArray, List.set_cons_zero, List.set_cons_succ]
        refine take_at (i := 11) (some 62) (v := ?va2v11) rfl rfl (by kernel_rfl) (by kernel_rfl) (by kernel_rfl) (fun _ _ _ h => h) (Or.inl ⟨by rfl, ?ha2v11⟩) hS0 ?ra2v11
        case ha2v11 => (intro W hSw; (try dsimp only at hSw); go_simp; first | done | with_reducible rfl)
        try simp only [Act.put, List.setIfInBounds_toArray, List.set_cons_zero, List.set_cons_succ]
        refine take_at (i := 12) (some 63) (v := ?va2v12) rfl rfl (by kernel_rfl) (by kernel_rfl) (by kernel_rfl) (fun _ _ _ h => h) (Or.inl ⟨by rfl, ?ha2v12⟩) hS0 ?ra2v12
        case ha2v12 => (intro W hSw; (try dsimp only at hSw); go_simp; first | done | with_reducible rfl)
        try simp only [Act.put, List.setIfInBounds_toArray, List.set_cons_zero, List.set_cons_succ]
        refine take_at (i := 13) (some 64) (v := ?va2v13) rfl rfl (by kernel_rfl) (by kernel_rfl) (by kernel_rfl) (fun _ _ _ h => h) (Or.inl ⟨by rfl, ?ha2v13⟩) hS0 ?ra2v13
        case ha2v13 => (intro W hSw; (try dsimp only at hSw); go_simp; first | done | with_reducible rfl)
        try simp only [Act.put, List.setIfInBounds_toArray, List.set_cons_zero, List.set_cons_succ]
        refine take_at (i := 14) (some 65) (v := ?va2v14) rfl rfl (by kernel_rfl) (by kernel_rfl) (by kernel_rfl) (fun _ _ _ h => h) (Or.inl ⟨by rfl, ?ha2v14⟩) hS0 ?ra2v14
        case ha2v14 => (intro W hSw; (try dsimp only at hSw); go_simp; first | done | with_reducible rfl)
        try simp only [Act.put, List.setIfInBounds_toArray, List.set_cons_zero, List.set_cons_succ]
        try rw [q3]
        refine take_at (i := 15) (some 66) (v := ?va2v15) rfl rfl (by kernel_rfl) (by kernel_rfl) (by kernel_rfl) (fun _ _ _ h => h) (Or.inl ⟨by rfl, ?ha2v15⟩) hS0 ?ra2v15
        case ha2v15 => (intro W hSw; (try dsimp only at hSw); go_simp; first | done | with_reducible rfl)
        try simp only [Act.put, List.setIfInBounds_toArray, List.set_cons_zero, List.set_cons_succ]
        refine take_at (i := 16) (some 67) (v := ?va2v16) rfl rfl (by kernel_rfl) (by kernel_rfl) (by kernel_rfl) (fun _ _ _ h => h) (Or.inl ⟨by rfl, ?ha2v16⟩) hS0 ?ra2v16
        case ha2v16 => (intro W hSw; (try dsimp only at hSw); go_simp; first | done | with_reducible rfl)
        try simp only [Act.put, List.setIfInBounds_toArray, List.set_cons_zero, List.set_cons_succ]
        refine take_at (i := 17) (some 68) (v := ?va2v17) rfl rfl (by kernel_rfl) (by kernel_rfl) (by kernel_rfl) (fun _ _ _ h => h) (Or.inl ⟨by rfl, ?ha2v17⟩) hS0 ?ra2v17
        case ha2v17 => (intro W hSw; (try dsimp only at hSw); go_simp; first | done | with_reducible rfl)
        try simp only [Act.put, List.setIfInBounds_toArray, List.set_cons_zero, List.set_cons_succ]
        refine wpAnyH_ready (rs := [18]) (by kernel_rfl) (by simp) ?_
        refine AllReadyH.cons (o := _) rfl (fun K hK => ?_) AllReadyH.nil
        go_simp
        refine (works10 _).mono ?_
        rintro e w7 ⟨rfl, hbel⟩
        have hS7 := run_str (hT.bs.drew.keep (Below.chg hbel []) (by simp))
        refine hK.out _ _ hS7 (fun _ => ?_)
        clear hK K
        try simp only [Act.put, List.setIfInBounds_toArray, List.set_cons_zero, List.set_cons_succ]
        refine take_at (i := 19) (some 70) (v := ?va2v19) rfl rfl (by kernel_rfl) (by kernel_rfl) (by kernel_rfl) (fun _ _ _ h => h) (Or.inl ⟨by rfl, ?ha2v19⟩) hS7 ?ra2v19
        case ha2v19 => (intro W hSw; (try dsimp only at hSw); go_simp; first | done | with_reducible rfl)
        try simp only [Act.put, List.setIfInBounds_toArray, List.set_cons_zero, List.set_cons_succ]
        refine take_at (i := 20) (some 2) (v := ?va2v20) rfl rfl (by kernel_rfl) (by kernel_rfl) (by kernel_rfl) (fun _ _ _ h => h) (Or.inl ⟨by rfl, ?ha2v20⟩) hS7 ?ra2v20
        case ha2v20 => (intro W hSw; (try dsimp only at hSw); go_simp; first | done | with_reducible rfl)
        try simp only [Act.put, List.setIfInBounds_toArray, List.set_cons_zero, List.set_cons_succ]
        refine wpAnyH_done (by kernel_rfl) ?_ _
        go_wp2
        go_ret
        exact ⟨rfl, hT.rd.chg.drew.then_below hbel⟩
  · have h3' : (S.size : Int) ≤ 5000 := by omega
    have hx := trivial
    go_enter Try.func17, Try.ntmps17
    go_wp2_with (first
      | (go_at_call 20; refine (new_in _).mono ?_; rintro e w1 ⟨g, rfl, hr1, hg1⟩)
      | (refine wp_bytes rfl _ rfl S rfl (by have := HSS.out; unfold maxLen; omega) ?_; intro c2 w2 hb2 hf2 hc2 hz2; rw [HLL.out] at hb2; have hr2 := hid (hr1.new hc2); clear hr1)
      | (go_at_call 21; refine (P1.out _ _ _ _ _ hr2.out hb2).mono ?_; rintro e w3 ⟨rfl, xs3, hr3, hc3, hx3⟩))
    clear hg1 hc2 hc3
    go_loopw [4, 5] (fun b i wr => ∃ (k : Nat) (xs : List Nat) (l : List UInt8) (ao : Option Addr) (m c : Nat) (out : List UInt8), b = .slice ao m c ∧ i = .int .i64 k ∧ k ≤ 1100 ∧ AgT w wr g xs l false ao m c out ∧ out ++ l = L)
      (fun _ i _ => 1100 - (intOf i).toNat)
    case atStart => exact ⟨0, xs3, L, none, 0, 0, [], rfl, rfl, by omega, ⟨hr3, Bs.nil _, .inl ⟨rfl, rfl, rfl, rfl⟩⟩, rfl⟩
    case round =>
      clear hr3 hr2 hb2 P1 hf2 hz2 hx3 h3' 
      obtain ⟨k, xs, l, ao, m, c, out, rfl, rfl, hk, hT, hLo⟩ := hrel
      have hk' : (k : Int) ≤ 1100 := by omega
      obtain rfl := hT.bs.1
      have hlen : out.length + l.length = S.size := by rw [← List.length_append, hLo, ← HLL.out, Array.length_toList]; rfl
      have q1 : IntKind.i64.wrap ((out.length : Int) + (l.length : Int)) = (S.size : Int) := by rw [IntWalk.i64_in _ (by omega)]; omega
      have q3 : S.extract 0 out.length = str out := by
        apply ByteArray.ext
        apply Array.toList_inj.1
        rw [str_data, ByteArray.data_extract, Array.toList_extract, HLL.out, ← hLo]
        simp
      have q2 : out.length ≤ S.size := by omega
      by_cases hlt : k < 1100
      · have hlt' : (k : Int) < 1100 := by omega
        have HN := hid (next_in w g xs l false wr hT.rd (by have := HSS.out; omega))
        rcases nextS_cases l with hn | hn | ⟨kk, body, rest, hn, hk1, hk2, hbl, hlr, hf0, hx1⟩
        · rw [hn] at HN
          clear hn
          go_wp2_with (first
            | (go_at_call 25; refine HN.out.mono ?_; rintro e w4 ⟨a4, c4, xs4, rfl, hb4, hy4, hr4, hc4, hx4⟩))
          have hT := hT.next hr4 hc4 hx4
          clear HN hb4 hy4 hr4 hc4 hx4
          refine wp_region_held_drew (S := fun W => (convert 27 9 (.slice ao out.length c)).run Try.prog W = .ok (.string (str out)) W) (by kernel_rfl) (run_str (hT.bs.drew)) (fun hS0 => ?_)
          refine take_at (i := 0) (some 51) (v := ?vb0u0) rfl rfl (by kernel_rfl) (by kernel_rfl) (by kernel_rfl) (fun _ _ _ h => h) (Or.inl ⟨by rfl, ?hb0u0⟩) hS0 ?rb0u0
          case hb0u0 => (intro W hSw; (try dsimp only at hSw); go_simp; first | done | with_reducible rfl)
          try simp only [Act.put, List.setIfInBounds_toArray, List.set_cons_zero, List.set_cons_succ]
          refine take_at (i := 1) (some 52) (v := ?vb0u1) rfl rfl (by kernel_rfl) (by kernel_rfl) (by kernel_rfl) (fun _ _ _ h => h) (Or.inl ⟨by rfl, ?hb0u1⟩) hS0 ?rb0u1
          case hb0u1 => (intro W hSw; (try dsimp only at hSw); go_simp; first | done | with_reducible rfl)
          try simp only [Act.put, List.setIfInBounds_toArray, List.set_cons_zero, List.set_cons_succ]
          refine take_at (i := 2) (some 53) (v := ?vb0u2) rfl rfl (by kernel_rfl) (by kernel_rfl) (by kernel_rfl) (fun _ _ _ h => h) (Or.inl ⟨by rfl, ?hb0u2⟩) hS0 ?rb0u2
          case hb0u2 => (intro W hSw; (try dsimp only at hSw); go_simp; first | done | with_reducible rfl)
          try simp only [Act.put, List.setIfInBounds_toArray, List.set_cons_zero, List.set_cons_succ]
          refine take_at (i := 5) (some 56) (v := ?vb0u5) rfl rfl (by kernel_rfl) (by kernel_rfl) (by kernel_rfl) (fun _ _ _ h => h) (Or.inl ⟨by rfl, ?hb0u5⟩) hS0 ?rb0u5
          case hb0u5 => (intro W hSw; (try dsimp only at hSw); go_simp; first | done | with_reducible rfl)
          try simp only [Act.put, List.setIfInBounds_toArray, List.set_cons_zero, List.set_cons_succ]
          refine take_at (i := 6) (some 57) (v := ?vb0u6) rfl rfl (by kernel_rfl) (by kernel_rfl) (by kernel_rfl) (fun _ _ _ h => h) (Or.inl ⟨by rfl, ?hb0u6⟩) hS0 ?rb0u6
          case hb0u6 => (intro W hSw; (try dsimp only at hSw); go_simp; first | done | with_reducible rfl)
          try simp only [Act.put, List.setIfInBounds_toArray, List.set_cons_zero, List.set_cons_succ]
          refine wpAnyH_ready (rs := [3]) (by kernel_rfl) (by simp) ?_
          refine AllReadyH.cons (o := _) rfl (fun K hK => ?_) AllReadyH.nil
          go_simp
          refine (held_any _ _ _ _ _ (hT.rd.rd.keep (Chg.refl _ []).drew (by simp) (by simp))).mono ?_
          rintro e w5 ⟨rfl, rfl⟩
          refine hK.out _ _ hS0 (fun _ => ?_)
          clear hK K
          try simp only [Act.put, List.setIfInBounds_toArray, List.set_cons_zero, List.set_cons_succ]
          refine take_at (i := 4) (some 55) (v := ?vb0v4) rfl rfl (by kernel_rfl) (by kernel_rfl) (by kernel_rfl) (fun _ _ _ h => h) (Or.inl ⟨by rfl, ?hb0v4⟩) hS0 ?rb0v4
          case hb0v4 => (intro W hSw; (try dsimp only at hSw); go_simp; first | done | with_reducible rfl)
          try simp only [Act.put, List.setIfInBounds_toArray, List.set_cons_zero, List.set_cons_succ]
          try rw [q1]
          refine take_at (i := 7) (some 58) (v := ?vb0v7) rfl rfl (by kernel_rfl) (by kernel_rfl) (by kernel_rfl) (fun _ _ _ h => h) (Or.inl ⟨by rfl, ?hb0v7⟩) hS0 ?rb0v7
          case hb0v7 => (intro W hSw; (try dsimp only at hSw); go_simp; first | done | with_reducible rfl)
          try simp only [Act.put, List.setIfInBounds_toArray, List.set_cons_zero, List.set_cons_succ]
          refine take_at (i := 8) (some 59) (v := ?vb0v8) rfl rfl (by kernel_rfl) (by kernel_rfl) (by kernel_rfl) (fun _ _ _ h => h) (Or.inl ⟨by rfl, ?hb0v8⟩) hS0 ?rb0v8
          case hb0v8 => (intro W hSw; (try dsimp only at hSw); go_simp; first | done | with_reducible rfl)
          try simp only [Act.put, List.setIfInBounds_toArray, List.set_cons_zero, List.set_cons_succ]
          refine take_at (i := 9) (some 60) (v := ?vb0v9) rfl rfl (by kernel_rfl) (by kernel_rfl) (by kernel_rfl) (fun _ _ _ h => h) (Or.inl ⟨by rfl, ?hb0v9⟩) hS0 ?rb0v9
          case hb0v9 => (intro W hSw; (try dsimp only at hSw); go_simp; first | done | with_reducible rfl)
          try simp only [Act.put, List.setIfInBounds_toArray, List.set_cons_zero, List.set_cons_succ]
          refine take_at (i := 10) (some 61) (v := ?vb0v10) rfl rfl (by kernel_rfl) (by kernel_rfl) (by kernel_rfl) (fun _ _ _ h => h) (Or.inl ⟨by rfl, ?hb0v10⟩) hS0 ?rb0v10
          case hb0v10 => (intro W hSw; (try dsimp only at hSw); go_simp; first | done | with_reducible rfl)
          try simp only [Act.put, List.setIfInBounds_toArray, List.set_cons_zero, List.set_cons_succ]
          refine take_at (i := 11) (some 62) (v := ?vb0v11) rfl rfl (by kernel_rfl) (by kernel_rfl) (by kernel_rfl) (fun _ _ _ h => h) (Or.inl ⟨by rfl, ?hb0v11⟩) hS0 ?rb0v11
          case hb0v11 => (intro W hSw; (try dsimp only at hSw); go_simp; first | done | with_reducible rfl)
          try simp only [Act.put, List.setIfInBounds_toArray, List.set_cons_zero, List.set_cons_succ]
          refine take_at (i := 12) (some 63) (v := ?vb0v12) rfl rfl (by kernel_rfl) (by kernel_rfl) (by kernel_rfl) (fun _ _ _ h => h) (Or.inl ⟨by rfl, ?hb0v12⟩) hS0 ?rb0v12
          case hb0v12 => (intro W hSw; (try dsimp only at hSw); go_simp; first | done | with_reducible rfl)
          try simp only [Act.put, List.setIfInBounds_toArray, List.set_cons_zero, List.set_cons_succ]
          refine take_at (i := 13) (some 64) (v := ?vb0v13) rfl rfl (by kernel_rfl) (by kernel_rfl) (by kernel_rfl) (fun _ _ _ h => h) (Or.inl ⟨by rfl, ?hb0v13⟩) hS0 ?rb0v13
          case hb0v13 => (intro W hSw; (try dsimp only at hSw); go_simp; first | done | with_reducible rfl)
          try simp only [Act.put, List.setIfInBounds_toArray, List.set_cons_zero, List.set_cons_succ]
          refine take_at (i := 14) (some 65) (v := ?vb0v14) rfl rfl (by kernel_rfl) (by kernel_rfl) (by kernel_rfl) (fun _ _ _ h => h) (Or.inl ⟨by rfl, ?hb0v14⟩) hS0 ?rb0v14
          case hb0v14 => (intro W hSw; (try dsimp only at hSw); go_simp; first | done | with_reducible rfl)
          try simp only [Act.put, List.setIfInBounds_toArray, List.set_cons_zero, List.set_cons_succ]
          try rw [q3]
          refine take_at (i := 15) (some 66) (v := ?vb0v15) rfl rfl (by kernel_rfl) (by kernel_rfl) (by kernel_rfl) (fun _ _ _ h => h) (Or.inl ⟨by rfl, ?hb0v15⟩) hS0 ?rb0v15
          case hb0v15 => (intro W hSw; (try dsimp only at hSw); go_simp; first | done | with_reducible rfl)
          try simp only [Act.put, List.setIfInBounds_toArray, List.set_cons_zero, List.set_cons_succ]
          refine take_at (i := 16) (some 67) (v := ?vb0v16) rfl rfl (by kernel_rfl) (by kernel_rfl) (by kernel_rfl) (fun _ _ _ h => h) (Or.inl ⟨by rfl, ?hb0v16⟩) hS0 ?rb0v16
          case hb0v16 => (intro W hSw; (try dsimp only at hSw); go_simp; first | done | with_reducible rfl)
          try simp only [Act.put, List.setIfInBounds_toArray, List.set_cons_zero, List.set_cons_succ]
          refine take_at (i := 17) (some 68) (v := ?vb0v17) rfl rfl (by kernel_rfl) (by kernel_rfl) (by kernel_rfl) (fun _ _ _ h => h) (Or.inl ⟨by rfl, ?hb0v17⟩) hS0 ?rb0v17
          case hb0v17 => (intro W hSw; (try dsimp only at hSw); go_simp; first | done | with_reducible rfl)
          try simp only [Act.put, List.setIfInBounds_toArray, List.set_cons_zero, List.set_cons_succ]
          refine wpAnyH_ready (rs := [18]) (by kernel_rfl) (by simp) ?_
          refine AllReadyH.cons (o := _) rfl (fun K hK => ?_) AllReadyH.nil
          go_simp
          refine (works10 _).mono ?_
          rintro e w7 ⟨rfl, hbel⟩
          have hS7 := run_str (hT.bs.drew.keep (Below.chg hbel []) (by simp))
          refine hK.out _ _ hS7 (fun _ => ?_)
          clear hK K
          try simp only [Act.put, List.setIfInBounds_toArray, List.set_cons_zero, List.set_cons_succ]
          refine take_at (i := 19) (some 70) (v := ?vb0v19) rfl rfl (by kernel_rfl) (by kernel_rfl) (by kernel_rfl) (fun _ _ _ h => h) (Or.inl ⟨by rfl, ?hb0v19⟩) hS7 ?rb0v19
          case hb0v19 => (intro W hSw; (try dsimp only at hSw); go_simp; first | done | with_reducible rfl)
          try simp only [Act.put, List.setIfInBounds_toArray, List.set_cons_zero, List.set_cons_succ]
          refine take_at (i := 20) (some 2) (v := ?vb0v20) rfl rfl (by kernel_rfl) (by kernel_rfl) (by kernel_rfl) (fun _ _ _ h => h) (Or.inl ⟨by rfl, ?hb0v20⟩) hS7 ?rb0v20
          case hb0v20 => (intro W hSw; (try dsimp only at hSw); go_simp; first | done | with_reducible rfl)
          try simp only [Act.put, List.setIfInBounds_toArray, List.set_cons_zero, List.set_cons_succ]
          refine wpAnyH_done (by kernel_rfl) ?_ _
          go_wp2
          go_ret
          exact ⟨rfl, hT.rd.chg.drew.then_below hbel⟩
        · rw [hn] at HN
          clear hn
          go_wp2_with (first
            | (go_at_call 25; refine HN.out.mono ?_; rintro e w4 ⟨a4, c4, xs4, rfl, hb4, hy4, hr4, hc4, hx4⟩))
          have hT := hT.next hr4 hc4 hx4
          clear HN hb4 hy4 hr4 hc4 hx4
          refine wp_region_held_drew (S := fun W => (convert 27 9 (.slice ao out.length c)).run Try.prog W = .ok (.string (str out)) W) (by kernel_rfl) (run_str (hT.bs.drew)) (fun hS0 => ?_)
          refine take_at (i := 0) (some 51) (v := ?vb1u0) rfl rfl (by kernel_rfl) (by kernel_rfl) (by kernel_rfl) (fun _ _ _ h => h) (Or.inl ⟨by rfl, ?hb1u0⟩) hS0 ?rb1u0
          case hb1u0 => (intro W hSw; (try dsimp only at hSw); go_simp; first | done | with_reducible rfl)
          try simp only [Act.put, List.setIfInBounds_toArray, List.set_cons_zero, List.set_cons_succ]
          refine take_at (i := 1) (some 52) (v := ?vb1u1) rfl rfl (by kernel_rfl) (by kernel_rfl) (by kernel_rfl) (fun _ _ _ h => h) (Or.inl ⟨by rfl, ?hb1u1⟩) hS0 ?rb1u1
          case hb1u1 => (intro W hSw; (try dsimp only at hSw); go_simp; first | done | with_reducible rfl)
          try simp only [Act.put, List.setIfInBounds_toArray, List.set_cons_zero, List.set_cons_succ]
          refine take_at (i := 2) (some 53) (v := ?vb1u2) rfl rfl (by kernel_rfl) (by kernel_rfl) (by kernel_rfl) (fun _ _ _ h => h) (Or.inl ⟨by rfl, ?hb1u2⟩) hS0 ?rb1u2
          case hb1u2 => (intro W hSw; (try dsimp only at hSw); go_simp; first | done | with_reducible rfl)
          try simp only [Act.put, List.setIfInBounds_toArray, List.set_cons_zero, List.set_cons_succ]
          refine take_at (i := 5) (some 56) (v := ?vb1u5) rfl rfl (by kernel_rfl) (by kernel_rfl) (by kernel_rfl) (fun _ _ _ h => h) (Or.inl ⟨by rfl, ?hb1u5⟩) hS0 ?rb1u5
          case hb1u5 => (intro W hSw; (try dsimp only at hSw); go_simp; first | done | with_reducible rfl)
          try simp only [Act.put, List.setIfInBounds_toArray, List.set_cons_zero, List.set_cons_succ]
          refine take_at (i := 6) (some 57) (v := ?vb1u6) rfl rfl (by kernel_rfl) (by kernel_rfl) (by kernel_rfl) (fun _ _ _ h => h) (Or.inl ⟨by rfl, ?hb1u6⟩) hS0 ?rb1u6
          case hb1u6 => (intro W hSw; (try dsimp only at hSw); go_simp; first | done | with_reducible rfl)
          try simp only [Act.put, List.setIfInBounds_toArray, List.set_cons_zero, List.set_cons_succ]
          refine wpAnyH_ready (rs := [3]) (by kernel_rfl) (by simp) ?_
          refine AllReadyH.cons (o := _) rfl (fun K hK => ?_) AllReadyH.nil
          go_simp
          refine (held_any _ _ _ _ _ (hT.rd.rd.keep (Chg.refl _ []).drew (by simp) (by simp))).mono ?_
          rintro e w5 ⟨rfl, rfl⟩
          refine hK.out _ _ hS0 (fun _ => ?_)
          clear hK K
          try simp only [Act.put, List.setIfInBounds_toArray, List.set_cons_zero, List.set_cons_succ]
          refine take_at (i := 4) (some 55) (v := ?vb1v4) rfl rfl (by kernel_rfl) (by kernel_rfl) (by kernel_rfl) (fun _ _ _ h => h) (Or.inl ⟨by rfl, ?hb1v4⟩) hS0 ?rb1v4
          case hb1v4 => (intro W hSw; (try dsimp only at hSw); go_simp; first | done | with_reducible rfl)
          try simp only [Act.put, List.setIfInBounds_toArray, List.set_cons_zero, List.set_cons_succ]
          try rw [q1]
          refine take_at (i := 7) (some 58) (v := ?vb1v7) rfl rfl (by kernel_rfl) (by kernel_rfl) (by kernel_rfl) (fun _ _ _ h => h) (Or.inl ⟨by rfl, ?hb1v7⟩) hS0 ?rb1v7
          case hb1v7 => (intro W hSw; (try dsimp only at hSw); go_simp; first | done | with_reducible rfl)
          try simp only [Act.put, List.setIfInBounds_toArray, List.set_cons_zero, List.set_cons_succ]
          refine take_at (i := 8) (some 59) (v := ?vb1v8) rfl rfl (by kernel_rfl) (by kernel_rfl) (by kernel_rfl) (fun _ _ _ h => h) (Or.inl ⟨by rfl, ?hb1v8⟩) hS0 ?rb1v8
          case hb1v8 => (intro W hSw; (try dsimp only at hSw); go_simp; first | done | with_reducible rfl)
          try simp only [Act.put, List.setIfInBounds_toArray, List.set_cons_zero, List.set_cons_succ]
          refine take_at (i := 9) (some 60) (v := ?vb1v9) rfl rfl (by kernel_rfl) (by kernel_rfl) (by kernel_rfl) (fun _ _ _ h => h) (Or.inl ⟨by rfl, ?hb1v9⟩) hS0 ?rb1v9
          case hb1v9 => (intro W hSw; (try dsimp only at hSw); go_simp; first | done | with_reducible rfl)
          try simp only [Act.put, List.setIfInBounds_toArray, List.set_cons_zero, List.set_cons_succ]
          refine take_at (i := 10) (some 61) (v := ?vb1v10) rfl rfl (by kernel_rfl) (by kernel_rfl) (by kernel_rfl) (fun _ _ _ h => h) (Or.inl ⟨by rfl, ?hb1v10⟩) hS0 ?rb1v10
          case hb1v10 => (intro W hSw; (try dsimp only at hSw); go_simp; first | done | with_reducible rfl)
          try simp only [Act.put, List.setIfInBounds_toArray, List.set_cons_zero, List.set_cons_succ]
          refine take_at (i := 11) (some 62) (v := ?vb1v11) rfl rfl (by kernel_rfl) (by kernel_rfl) (by kernel_rfl) (fun _ _ _ h => h) (Or.inl ⟨by rfl, ?hb1v11⟩) hS0 ?rb1v11
          case hb1v11 => (intro W hSw; (try dsimp only at hSw); go_simp; first | done | with_reducible rfl)
          try simp only [Act.put, List.setIfInBounds_toArray, List.set_cons_zero, List.set_cons_succ]
          refine take_at (i := 12) (some 63) (v := ?vb1v12) rfl rfl (by kernel_rfl) (by kernel_rfl) (by kernel_rfl) (fun _ _ _ h => h) (Or.inl ⟨by rfl, ?hb1v12⟩) hS0 ?rb1v12
          case hb1v12 => (intro W hSw; (try dsimp only at hSw); go_simp; first | done | with_reducible rfl)
          try simp only [Act.put, List.setIfInBounds_toArray, List.set_cons_zero, List.set_cons_succ]
          refine take_at (i := 13) (some 64) (v := ?vb1v13) rfl rfl (by kernel_rfl) (by kernel_rfl) (by kernel_rfl) (fun _ _ _ h => h) (Or.inl ⟨by rfl, ?hb1v13⟩) hS0 ?rb1v13
          case hb1v13 => (intro W hSw; (try dsimp only at hSw); go_simp; first | done | with_reducible rfl)
          try simp only [Act.put, List.setIfInBounds_toArray, List.set_cons_zero, List.set_cons_succ]
          refine take_at (i := 14) (some 65) (v := ?vb1v14) rfl rfl (by kernel_rfl) (by kernel_rfl) (by kernel_rfl) (fun _ _ _ h => h) (Or.inl ⟨by rfl, ?hb1v14⟩) hS0 ?rb1v14
          case hb1v14 => (intro W hSw; (try dsimp only at hSw); go_simp; first | done | with_reducible rfl)
          try simp only [Act.put, List.setIfInBounds_toArray, List.set_cons_zero, List.set_cons_succ]
          try rw [q3]
          refine take_at (i := 15) (some 66) (v := ?vb1v15) rfl rfl (by kernel_rfl) (by kernel_rfl) (by kernel_rfl) (fun _ _ _ h => h) (Or.inl ⟨by rfl, ?hb1v15⟩) hS0 ?rb1v15
          case hb1v15 => (intro W hSw; (try dsimp only at hSw); go_simp; first | done | with_reducible rfl)
          try simp only [Act.put, List.setIfInBounds_toArray, List.set_cons_zero, List.set_cons_succ]
          refine take_at (i := 16) (some 67) (v := ?vb1v16) rfl rfl (by kernel_rfl) (by kernel_rfl) (by kernel_rfl) (fun _ _ _ h => h) (Or.inl ⟨by rfl, ?hb1v16⟩) hS0 ?rb1v16
          case hb1v16 => (intro W hSw; (try dsimp only at hSw); go_simp; first | done | with_reducible rfl)
          try simp only [Act.put, List.setIfInBounds_toArray, List.set_cons_zero, List.set_cons_succ]
          refine take_at (i := 17) (some 68) (v := ?vb1v17) rfl rfl (by kernel_rfl) (by kernel_rfl) (by kernel_rfl) (fun _ _ _ h => h) (Or.inl ⟨by rfl, ?hb1v17⟩) hS0 ?rb1v17
          case hb1v17 => (intro W hSw; (try dsimp only at hSw); go_simp; first | done | with_reducible rfl)
          try simp only [Act.put, List.setIfInBounds_toArray, List.set_cons_zero, List.set_cons_succ]
          refine wpAnyH_ready (rs := [18]) (by kernel_rfl) (by simp) ?_
          refine AllReadyH.cons (o := _) rfl (fun K hK => ?_) AllReadyH.nil
          go_simp
          refine (works10 _).mono ?_
          rintro e w7 ⟨rfl, hbel⟩
          have hS7 := run_str (hT.bs.drew.keep (Below.chg hbel []) (by simp))
          refine hK.out _ _ hS7 (fun _ => ?_)
          clear hK K
          try simp only [Act.put, List.setIfInBounds_toArray, List.set_cons_zero, List.set_cons_succ]
          refine take_at (i := 19) (some 70) (v := ?vb1v19) rfl rfl (by kernel_rfl) (by kernel_rfl) (by kernel_rfl) (fun _ _ _ h => h) (Or.inl ⟨by rfl, ?hb1v19⟩) hS7 ?rb1v19
          case hb1v19 => (intro W hSw; (try dsimp only at hSw); go_simp; first | done | with_reducible rfl)
          try simp only [Act.put, List.setIfInBounds_toArray, List.set_cons_zero, List.set_cons_succ]
          refine take_at (i := 20) (some 2) (v := ?vb1v20) rfl rfl (by kernel_rfl) (by kernel_rfl) (by kernel_rfl) (fun _ _ _ h => h) (Or.inl ⟨by rfl, ?hb1v20⟩) hS7 ?rb1v20
          case hb1v20 => (intro W hSw; (try dsimp only at hSw); go_simp; first | done | with_reducible rfl)
          try simp only [Act.put, List.setIfInBounds_toArray, List.set_cons_zero, List.set_cons_succ]
          refine wpAnyH_done (by kernel_rfl) ?_ _
          go_wp2
          go_ret
          exact ⟨rfl, hT.rd.chg.drew.then_below hbel⟩
        · rw [hn] at HN
          have HP := hid (fun (W : World) (a : Option Addr) (c : Nat) (h : Bs W a body.length c body) => fput_any (kk : Int) a body.length c body W h (by omega) (by omega))
          generalize fputS (kk : Int) body = r at *
          obtain ⟨x, fe⟩ := r
          simp only at hlr hf0 hx1
          subst hf0 hlr
          have hox : out.length + x.length ≤ 5000 := by
            have h1 := congrArg List.length hLo
            have h2 := HLN.out
            simp only [List.length_append] at h1
            omega
          clear hn hbl
          go_wp2_with (first
            | (go_at_call 25; refine HN.out.mono ?_; rintro e w4 ⟨a4, c4, xs4, rfl, hb4, hy4, hr4, hc4, hx4⟩; have hT := hT.next hr4 hc4 hx4; clear hr4 hc4 hx4 hy4)
            | (go_at_call 55; refine (HP.out _ _ _ hb4).mono ?_; rintro e w5 ⟨a5, c5, rfl, hb5, hc5, hy5⟩; have hT := hT.keep hc5; clear hc5 hb4 hy5)
            | (at_builtin; refine wp_ag rfl _ _ rfl hT rfl _ _ _ x rfl hb5 hx1 (by omega) ?_; intro y6 c6 w6 hT))
          go_roundw
          case rel => exact ⟨k + 1, xs4, rest, _, (out ++ x).length, c6, out ++ x, by rw [List.length_append], by go_num, by omega, hT, by rw [List.append_assoc]; exact hLo⟩
          case measure => simp [intOf]; omega
      · obtain rfl : k = 1100 := by omega
        go_wp2
        refine wp_region_held_drew (S := fun W => (convert 27 9 (.slice ao out.length c)).run Try.prog W = .ok (.string (str out)) W) (by kernel_rfl) (run_str (hT.bs.drew)) (fun hS0 => ?_)
        refine take_at (i := 0) (some 51) (v := ?vb2u0) rfl rfl (by kernel_rfl) (by kernel_rfl) (by kernel_rfl) (fun _ _ _ h => h) (Or.inl ⟨by rfl, ?hb2u0⟩) hS0 ?rb2u0
        case hb2u0 => (intro W hSw; (try dsimp only at hSw); go_simp; first | done | with_reducible rfl)
        try simp only [Act.put, List.setIfInBounds_toArray, List.set_cons_zero, List.set_cons_succ]
        refine take_at (i := 1) (some 52) (v := ?vb2u1) rfl rfl (by kernel_rfl) (by kernel_rfl) (by kernel_rfl) (fun _ _ _ h => h) (Or.inl ⟨by rfl, ?hb2u1⟩) hS0 ?rb2u1
        case hb2u1 => (intro W hSw; (try dsimp only at hSw); go_simp; first | done | with_reducible rfl)
        try simp only [Act.put, List.setIfInBounds_toArray, List.set_cons_zero, List.set_cons_succ]
        refine take_at (i := 2) (some 53) (v := ?vb2u2) rfl rfl (by kernel_rfl) (by kernel_rfl) (by kernel_rfl) (fun _ _ _ h => h) (Or.inl ⟨by rfl, ?hb2u2⟩) hS0 ?rb2u2
        case hb2u2 => (intro W hSw; (try dsimp only at hSw); go_simp; first | done | with_reducible rfl)
        try simp only [Act.put, List.setIfInBounds_toArray, List.set_cons_zero, List.set_cons_succ]
        refine take_at (i := 5) (some 56) (v := ?vb2u5) rfl rfl (by kernel_rfl) (by kernel_rfl) (by kernel_rfl) (fun _ _ _ h => h) (Or.inl ⟨by rfl, ?hb2u5⟩) hS0 ?rb2u5
        case hb2u5 => (intro W hSw; (try dsimp only at hSw); go_simp; first | done | with_reducible rfl)
        try simp only [Act.put, List.setIfInBounds_toArray, List.set_cons_zero, List.set_cons_succ]
        refine take_at (i := 6) (some 57) (v := ?vb2u6) rfl rfl (by kernel_rfl) (by kernel_rfl) (by kernel_rfl) (fun _ _ _ h => h) (Or.inl ⟨by rfl, ?hb2u6⟩) hS0 ?rb2u6
        case hb2u6 => (intro W hSw; (try dsimp only at hSw); go_simp; first | done | with_reducible rfl)
        try simp only [Act.put, List.setIfInBounds_toArray, List.set_cons_zero, List.set_cons_succ]
        refine wpAnyH_ready (rs := [3]) (by kernel_rfl) (by simp) ?_
        refine AllReadyH.cons (o := _) rfl (fun K hK => ?_) AllReadyH.nil
        go_simp
        refine (held_any _ _ _ _ _ (hT.rd.rd.keep (Chg.refl _ []).drew (by simp) (by simp))).mono ?_
        rintro e w5 ⟨rfl, rfl⟩
        refine hK.out _ _ hS0 (fun _ => ?_)
        clear hK K
        try simp only [Act.put, List.setIfInBounds_toArray, List.set_cons_zero, List.set_cons_succ]
        refine take_at (i := 4) (some 55) (v := ?vb2v4) rfl rfl (by kernel_rfl) (by kernel_rfl) (by kernel_rfl) (fun _ _ _ h => h) (Or.inl ⟨by rfl, ?hb2v4⟩) hS0 ?rb2v4
        case hb2v4 => (intro W hSw; (try dsimp only at hSw); go_simp; first | done | with_reducible rfl)
        try simp only [Act.put, List.setIfInBounds_toArray, List.set_cons_zero, List.set_cons_succ]
        try rw [q1]
        refine take_at (i := 7) (some 58) (v := ?vb2v7) rfl rfl (by kernel_rfl) (by kernel_rfl) (by kernel_rfl) (fun _ _ _ h => h) (Or.inl ⟨by rfl, ?hb2v7⟩) hS0 ?rb2v7
        case hb2v7 => (intro W hSw; (try dsimp only at hSw); go_simp; first | done | with_reducible rfl)
        try simp only [Act.put, List.setIfInBounds_toArray, List.set_cons_zero, List.set_cons_succ]
        refine take_at (i := 8) (some 59) (v := ?vb2v8) rfl rfl (by kernel_rfl) (by kernel_rfl) (by kernel_rfl) (fun _ _ _ h => h) (Or.inl ⟨by rfl, ?hb2v8⟩) hS0 ?rb2v8
        case hb2v8 => (intro W hSw; (try dsimp only at hSw); go_simp; first | done | with_reducible rfl)
        try simp only [Act.put, List.setIfInBounds_toArray, List.set_cons_zero, List.set_cons_succ]
        refine take_at (i := 9) (some 60) (v := ?vb2v9) rfl rfl (by kernel_rfl) (by kernel_rfl) (by kernel_rfl) (fun _ _ _ h => h) (Or.inl ⟨by rfl, ?hb2v9⟩) hS0 ?rb2v9
        case hb2v9 => (intro W hSw; (try dsimp only at hSw); go_simp; first | done | with_reducible rfl)
        try simp only [Act.put, List.setIfInBounds_toArray, List.set_cons_zero, List.set_cons_succ]
        refine take_at (i := 10) (some 61) (v := ?vb2v10) rfl rfl (by kernel_rfl) (by kernel_rfl) (by kernel_rfl) (fun _ _ _ h => h) (Or.inl ⟨by rfl, ?hb2v10⟩) hS0 ?rb2v10
        case hb2v10 => (intro W hSw; (try dsimp only at hSw); go_simp; first | done | with_reducible rfl)
        try simp only [Act.put, List.setIfInBounds_toArray, List.set_cons_zero, List.set_cons_succ]
        refine take_at (i := 11) (some 62) (v := ?vb2v11) rfl rfl (by kernel_rfl) (by kernel_rfl) (by kernel_rfl) (fun _ _ _ h => h) (Or.inl ⟨by rfl, ?hb2v11⟩) hS0 ?rb2v11
        case hb2v11 => (intro W hSw; (try dsimp only at hSw); go_simp; first | done | with_reducible rfl)
        try simp only [Act.put, List.setIfInBounds_toArray, List.set_cons_zero, List.set_cons_succ]
        refine take_at (i := 12) (some 63) (v := ?vb2v12) rfl rfl (by kernel_rfl) (by kernel_rfl) (by kernel_rfl) (fun _ _ _ h => h) (Or.inl ⟨by rfl, ?hb2v12⟩) hS0 ?rb2v12
        case hb2v12 => (intro W hSw; (try dsimp only at hSw); go_simp; first | done | with_reducible rfl)
        try simp only [Act.put, List.setIfInBounds_toArray, List.set_cons_zero, List.set_cons_succ]
        refine take_at (i := 13) (some 64) (v := ?vb2v13) rfl rfl (by kernel_rfl) (by kernel_rfl) (by kernel_rfl) (fun _ _ _ h => h) (Or.inl ⟨by rfl, ?hb2v13⟩) hS0 ?rb2v13
        case hb2v13 => (intro W hSw; (try dsimp only at hSw); go_simp; first | done | with_reducible rfl)
        try simp only [Act.put, List.setIfInBounds_toArray, List.set_cons_zero, List.set_cons_succ]
        refine take_at (i := 14) (some 65) (v := ?vb2v14) rfl rfl (by kernel_rfl) (by kernel_rfl) (by kernel_rfl) (fun _ _ _ h => h) (Or.inl ⟨by rfl, ?hb2v14⟩) hS0 ?rb2v14
        case hb2v14 => (intro W hSw; (try dsimp only at hSw); go_simp; first | done | with_reducible rfl)
        try simp only [Act.put, List.setIfInBounds_toArray, List.set_cons_zero, List.set_cons_succ]
        try rw [q3]
        refine take_at (i := 15) (some 66) (v := ?vb2v15) rfl rfl (by kernel_rfl) (by kernel_rfl) (by kernel_rfl) (fun _ _ _ h => h) (Or.inl ⟨by rfl, ?hb2v15⟩) hS0 ?rb2v15
        case hb2v15 => (intro W hSw; (try dsimp only at hSw); go_simp; first | done | with_reducible rfl)
        try simp only [Act.put, List.setIfInBounds_toArray, List.set_cons_zero, List.set_cons_succ]
        refine take_at (i := 16) (some 67) (v := ?vb2v16) rfl rfl (by kernel_rfl) (by kernel_rfl) (by kernel_rfl) (fun _ _ _ h => h) (Or.inl ⟨by rfl, ?hb2v16⟩) hS0 ?rb2v16
        case hb2v16 => (intro W hSw; (try dsimp only at hSw); go_simp; first | done | with_reducible rfl)
        try simp only [Act.put, List.setIfInBounds_toArray, List.set_cons_zero, List.set_cons_succ]
        refine take_at (i := 17) (some 68) (v := ?vb2v17) rfl rfl (by kernel_rfl) (by kernel_rfl) (by kernel_rfl) (fun _ _ _ h => h) (Or.inl ⟨by rfl, ?hb2v17⟩) hS0 ?rb2v17
        case hb2v17 => (intro W hSw; (try dsimp only at hSw); go_simp; first | done | with_reducible rfl)
        try simp only [Act.put, List.setIfInBounds_toArray, List.set_cons_zero, List.set_cons_succ]
        refine wpAnyH_ready (rs := [18]) (by kernel_rfl) (by simp) ?_
        refine AllReadyH.cons (o := _) rfl (fun K hK => ?_) AllReadyH.nil
        go_simp
        refine (works10 _).mono ?_
        rintro e w7 ⟨rfl, hbel⟩
        have hS7 := run_str (hT.bs.drew.keep (Below.chg hbel []) (by simp))
        refine hK.out _ _ hS7 (fun _ => ?_)
        clear hK K
        try simp only [Act.put, List.setIfInBounds_toArray, List.set_cons_zero, List.set_cons_succ]
        refine take_at (i := 19) (some 70) (v := ?vb2v19) rfl rfl (by kernel_rfl) (by kernel_rfl) (by kernel_rfl) (fun _ _ _ h => h) (Or.inl ⟨by rfl, ?hb2v19⟩) hS7 ?rb2v19
        case hb2v19 => (intro W hSw; (try dsimp only at hSw); go_simp; first | done | with_reducible rfl)
        try simp only [Act.put, List.setIfInBounds_toArray, List.set_cons_zero, List.set_cons_succ]
        refine take_at (i := 20) (some 2) (v := ?vb2v20) rfl rfl (by kernel_rfl) (by kernel_rfl) (by kernel_rfl) (fun _ _ _ h => h) (Or.inl ⟨by rfl, ?hb2v20⟩) hS7 ?rb2v20
        case hb2v20 => (intro W hSw; (try dsimp only at hSw); go_simp; first | done | with_reducible rfl)
        try simp only [Act.put, List.setIfInBounds_toArray, List.set_cons_zero, List.set_cons_succ]
        refine wpAnyH_done (by kernel_rfl) ?_ _
        go_wp2
        go_ret
        exact ⟨rfl, hT.rd.chg.drew.then_below hbel⟩

theorem again_walk (a0 : ByteArray) (w0 : a0.size ≤ maxLen) (w : World) : Calls Try.prog 17 #[.string a0] w (Yes w) := by
  unfold maxLen at w0
  by_cases h : a0.size ≤ 5000
  · exact again_walk0 a0 a0 _ rfl h w (.inr ⟨h, rfl⟩) (by omega)
  · exact again_walk0 a0 (a0.extract 0 5000) _ rfl (by rw [ByteArray.size_extract]; omega) w (.inl ⟨by omega, rfl⟩) (by omega)
end Go.Proofs.Ytabdpebokpjljaa
