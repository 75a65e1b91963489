/- Walks: Next of the reader of package frame, the other ways; and all of them as one plain function. -/
import Derived.Test.YtabdpebokpjljaaF4
namespace Go.Proofs.Ytabdpebokpjljaa
open Go.RowKit

set_option maxRecDepth 100000 in
set_option maxHeartbeats 1000000 in
theorem next_four (g x c n : Nat) (l : List UInt8) (w : World) (A : NextAt w g x c l n) (hn1 : 1 ≤ n) (hn2 : n ≤ 16385) (h5 : l.length < 5) :
    Calls Try.prog 25 #[.pointer (some ⟨g, 0, none⟩)] w (NextNo w g [x] l false 0) := by
  have HA := hid A
  have hmf : ∀ (fn : Fn) (first cap : Array Value) (w : World), (Instr.makeFunc fn first cap).run Try.prog w = .ok (.func fn first cap) w := fun _ _ _ _ => rfl
  have c0 := A.c0
  have h4 := A.four
  have hg := A.rd.lt
  have d1 : (4 : Int) ≤ (l.length : Int) := by omega
  have hle := A.own.bs.2.1
  have hmx := A.own.bs.2.2.1
  unfold maxLen at hmx
  have d2 : (n : Int) ≤ 16385 := by omega
  have d3 : (1 : Int) ≤ (n : Int) := by omega
  have q1 : ¬ g = w.heap.size + 1 := by omega
  clear A
  have d4 : (l.length : Int) < 5 := by omega
  · go_enter_defers Try.func25, Try.ntmps25
    go_wp2_with (first
      | (go_at_call 61; refine (HA.out.err _ (((Chg.refl w []).alloc _).alloc _)).mono ?_; rintro e w1 ⟨rfl, rfl⟩)
      | (go_at_call 36; refine (newTape_any _ _ _ (l.take 4) _ (HA.out.sl _ (((Chg.refl w []).alloc _).alloc _)) (by simp; omega)).mono ?_; rintro e w3 ⟨t, r, rfl, ht3, hchg3, hge3, hger3⟩)
      | (go_at_call 39; refine (HA.out.tape _ _ _ ht3).mono ?_; rintro e w4 ⟨rfl, ht4, hchg4⟩; obtain ⟨k4, b0, b1, b2, b3, b4, b5, b6⟩ := HA.out.mid hchg3 hge3 hchg4))
    obtain ⟨k5, k6⟩ := next_end_no (v := .int .i64 0) HA.out.rd k4 (Nat.le_succ _)
    exact next_leave_no rfl rfl rfl rfl rfl (cell_set_same b3) ⟨rfl, k5, k6⟩

set_option maxRecDepth 100000 in
set_option maxHeartbeats 1000000 in
theorem next_badkind (g x c n : Nat) (l : List UInt8) (w : World) (A : NextAt w g x c l n) (hn1 : 1 ≤ n) (hn2 : n ≤ 16385) (h5 : 4 < l.length) (kk : Nat) (hk : l[4].toNat = kk) (hk2 : kk < 1 ∨ 9 < kk) :
    Calls Try.prog 25 #[.pointer (some ⟨g, 0, none⟩)] w (NextNo w g [x] l true 4) := by
  have hk3 : kk < 256 := by rw [← hk]; exact l[4].toNat_lt
  have HA := hid A
  have hmf : ∀ (fn : Fn) (first cap : Array Value) (w : World), (Instr.makeFunc fn first cap).run Try.prog w = .ok (.func fn first cap) w := fun _ _ _ _ => rfl
  have c0 := A.c0
  have h4 := A.four
  have hg := A.rd.lt
  have d1 : (4 : Int) ≤ (l.length : Int) := by omega
  have hle := A.own.bs.2.1
  have hmx := A.own.bs.2.2.1
  unfold maxLen at hmx
  have d2 : (n : Int) ≤ 16385 := by omega
  have d3 : (1 : Int) ≤ (n : Int) := by omega
  have q1 : ¬ g = w.heap.size + 1 := by omega
  clear A
  have d4 : (5 : Int) ≤ (l.length : Int) := by omega
  have d5 : (kk : Int) ≤ 255 := by omega
  rcases hk2 with hk2 | hk2
  · have d6 : (kk : Int) < 1 := by omega
    go_enter_defers Try.func25, Try.ntmps25
    go_wp2_with (first
      | (go_at_call 61; refine (HA.out.err _ (((Chg.refl w []).alloc _).alloc _)).mono ?_; rintro e w1 ⟨rfl, rfl⟩)
      | (go_at_call 36; refine (newTape_any _ _ _ (l.take 4) _ (HA.out.sl _ (((Chg.refl w []).alloc _).alloc _)) (by simp; omega)).mono ?_; rintro e w3 ⟨t, r, rfl, ht3, hchg3, hge3, hger3⟩)
      | (go_at_call 39; refine (HA.out.tape _ _ _ ht3).mono ?_; rintro e w4 ⟨rfl, ht4, hchg4⟩; obtain ⟨k4, b0, b1, b2, b3, b4, b5, b6⟩ := HA.out.mid hchg3 hge3 hchg4; have b7 := b6 4 h5; unfold bv at b7; rw [hk] at b7; clear b6))
    obtain ⟨k5, k6⟩ := next_end_yes (v := .int .i64 4) HA.out.rd k4 (Nat.le_succ _)
    exact next_leave_yes rfl rfl rfl rfl (cell_set_same b3) (by rw [World.cell?_setCell_far _ _ _ _ (by simp)]; exact b2) (by rw [World.cell?_setCell_far _ _ _ _ (fun h => q1 h.symm)]; exact b1) (by simp; exact b5) (fun h => q1 h.symm) ⟨rfl, k5, k6⟩
  · have d6 : (9 : Int) < (kk : Int) := by omega
    have d7 : decide ((kk : Int) < 1) = false := by simp; omega
    go_enter_defers Try.func25, Try.ntmps25
    go_wp2_with (first
      | (go_at_call 61; refine (HA.out.err _ (((Chg.refl w []).alloc _).alloc _)).mono ?_; rintro e w1 ⟨rfl, rfl⟩)
      | (go_at_call 36; refine (newTape_any _ _ _ (l.take 4) _ (HA.out.sl _ (((Chg.refl w []).alloc _).alloc _)) (by simp; omega)).mono ?_; rintro e w3 ⟨t, r, rfl, ht3, hchg3, hge3, hger3⟩)
      | (go_at_call 39; refine (HA.out.tape _ _ _ ht3).mono ?_; rintro e w4 ⟨rfl, ht4, hchg4⟩; obtain ⟨k4, b0, b1, b2, b3, b4, b5, b6⟩ := HA.out.mid hchg3 hge3 hchg4; have b7 := b6 4 h5; unfold bv at b7; rw [hk] at b7; clear b6))
    obtain ⟨k5, k6⟩ := next_end_yes (v := .int .i64 4) HA.out.rd k4 (Nat.le_succ _)
    exact next_leave_yes rfl rfl rfl rfl (cell_set_same b3) (by rw [World.cell?_setCell_far _ _ _ _ (by simp)]; exact b2) (by rw [World.cell?_setCell_far _ _ _ _ (fun h => q1 h.symm)]; exact b1) (by simp; exact b5) (fun h => q1 h.symm) ⟨rfl, k5, k6⟩

set_option maxRecDepth 100000 in
set_option maxHeartbeats 1000000 in
theorem next_part (g x c n : Nat) (l : List UInt8) (w : World) (A : NextAt w g x c l n) (hn1 : 1 ≤ n) (hn2 : n ≤ 16385) (h5 : 4 < l.length) (kk : Nat) (hk : l[4].toNat = kk) (hk1 : 1 ≤ kk) (hk2 : kk ≤ 9) (hp : l.length < 4 + n) :
    Calls Try.prog 25 #[.pointer (some ⟨g, 0, none⟩)] w (NextNo w g [x] l false 0) := by
  have HA := hid A
  have hmf : ∀ (fn : Fn) (first cap : Array Value) (w : World), (Instr.makeFunc fn first cap).run Try.prog w = .ok (.func fn first cap) w := fun _ _ _ _ => rfl
  have c0 := A.c0
  have h4 := A.four
  have hg := A.rd.lt
  have d1 : (4 : Int) ≤ (l.length : Int) := by omega
  have hle := A.own.bs.2.1
  have hmx := A.own.bs.2.2.1
  unfold maxLen at hmx
  have d2 : (n : Int) ≤ 16385 := by omega
  have d3 : (1 : Int) ≤ (n : Int) := by omega
  have q1 : ¬ g = w.heap.size + 1 := by omega
  clear A
  have d4 : (5 : Int) ≤ (l.length : Int) := by omega
  have d5 : (kk : Int) ≤ 9 := by omega
  have d6 : (1 : Int) ≤ (kk : Int) := by omega
  have d7 : (l.length : Int) < 4 + (n : Int) := by omega
  · go_enter_defers Try.func25, Try.ntmps25
    go_wp2_with (first
      | (go_at_call 61; refine (HA.out.err _ (((Chg.refl w []).alloc _).alloc _)).mono ?_; rintro e w1 ⟨rfl, rfl⟩)
      | (go_at_call 36; refine (newTape_any _ _ _ (l.take 4) _ (HA.out.sl _ (((Chg.refl w []).alloc _).alloc _)) (by simp; omega)).mono ?_; rintro e w3 ⟨t, r, rfl, ht3, hchg3, hge3, hger3⟩)
      | (go_at_call 39; refine (HA.out.tape _ _ _ ht3).mono ?_; rintro e w4 ⟨rfl, ht4, hchg4⟩; obtain ⟨k4, b0, b1, b2, b3, b4, b5, b6⟩ := HA.out.mid hchg3 hge3 hchg4; have b7 := b6 4 h5; unfold bv at b7; rw [hk] at b7; clear b6))
    obtain ⟨k5, k6⟩ := next_end_no (v := .int .i64 0) HA.out.rd k4 (Nat.le_succ _)
    exact next_leave_no rfl rfl rfl rfl rfl (cell_set_same b3) ⟨rfl, k5, k6⟩

/-- What a reader answers to Next: the kind, the body, is there one, the error; and what it holds then. -/
def nextS (l : List UInt8) (br : Bool) : (Int × List UInt8 × Bool × Int) × List UInt8 × Bool :=
  if br then ((0, [], false, 4), l, true)
  else if l.length < 4 then ((0, [], false, 0), l, false)
  else if be (l.take 4) < 1 ∨ 16385 < be (l.take 4) then ((0, [], false, 4), l, true)
  else if l.length < 5 then ((0, [], false, 0), l, false)
  else if (l.getD 4 0).toNat < 1 ∨ 9 < (l.getD 4 0).toNat then ((0, [], false, 4), l, true)
  else if l.length < 4 + be (l.take 4) then ((0, [], false, 0), l, false)
  else (((l.getD 4 0).toNat, (l.take (4 + be (l.take 4))).drop 5, true, 0), l.drop (4 + be (l.take 4)), false)

/-- What Next leaves, whatever it answers. -/
def NextTo (w : World) (g : Nat) (xs : List Nat) (r : (Int × List UInt8 × Bool × Int) × List UInt8 × Bool) (e : Ending) (w' : World) : Prop :=
  ∃ ao c xs', e = .returned (.tuple #[.int .i64 r.1.1, .slice ao r.1.2.1.length c, .bool r.1.2.2.1, .int .i64 r.1.2.2.2]) ∧ Bs w' ao r.1.2.1.length c r.1.2.1 ∧
    (∀ y, ao = some y → w.heap.size ≤ y.block ∧ y.block ≠ g ∧ y.block ∉ xs') ∧ Rd w' g xs' r.2.1 r.2.2 ∧ Chg w w' [g] ∧ ∀ x, x ∈ xs' → x ∈ xs ∨ w.heap.size ≤ x

theorem NextNo.to {w : World} {g : Nat} {xs : List Nat} {l : List UInt8} {br : Bool} {k : Int} {e : Ending} {w' : World} (h : NextNo w g xs l br k e w') : NextTo w g xs ((0, [], false, k), l, br) e w' := by
  obtain ⟨rfl, h1, h2⟩ := h
  exact ⟨none, 0, xs, rfl, Bs.nil _, by simp, h1, h2, fun x hx => .inl hx⟩

theorem next_any (g : Nat) (xs : List Nat) (l : List UInt8) (br : Bool) (w : World) (h : Rd w g xs l br) (hl : l.length ≤ 1000000) :
    Calls Try.prog 25 #[.pointer (some ⟨g, 0, none⟩)] w (NextTo w g xs (nextS l br)) := by
  cases br with
  | true =>
    rw [show nextS l true = ((0, [], false, 4), l, true) from by simp [nextS]]
    exact (next_broken g xs l w h).mono fun _ _ hh => hh.to
  | false =>
    by_cases h4 : l.length < 4
    · rw [show nextS l false = ((0, [], false, 0), l, false) from by simp [nextS, h4]]
      exact (next_short g xs l w h h4).mono fun _ _ hh => hh.to
    · rcases h with ⟨rfl, rfl, _⟩ | ⟨x, c, rfl, hx, hblk, hown⟩
      · simp at h4
      · have A : NextAt w g x c l (be (l.take 4)) := ⟨hblk, hown, hx, by omega, rfl⟩
        generalize hn : be (l.take 4) = n at A
        by_cases hb : n < 1 ∨ 16385 < n
        · rw [show nextS l false = ((0, [], false, 4), l, true) from by
            unfold nextS
            rw [hn, if_neg (by decide), if_neg h4, if_pos hb]]
          exact (next_badlen g x c n l w A hb).mono fun _ _ hh => hh.to
        · by_cases h5 : l.length < 5
          · rw [show nextS l false = ((0, [], false, 0), l, false) from by
              unfold nextS
              rw [hn, if_neg (by decide), if_neg h4, if_neg hb, if_pos h5]]
            exact (next_four g x c n l w A (by omega) (by omega) h5).mono fun _ _ hh => hh.to
          · have h5' : 4 < l.length := by omega
            have hd : (l.getD 4 0).toNat = l[4].toNat := by rw [List.getD_eq_getElem?_getD, List.getElem?_eq_getElem h5']; rfl
            generalize hk : l[4].toNat = kk at hd
            by_cases hbk : kk < 1 ∨ 9 < kk
            · rw [show nextS l false = ((0, [], false, 4), l, true) from by
                unfold nextS
                rw [hn, hd, if_neg (by decide), if_neg h4, if_neg hb, if_neg h5, if_pos hbk]]
              exact (next_badkind g x c n l w A (by omega) (by omega) h5' kk hk hbk).mono fun _ _ hh => hh.to
            · by_cases hp : l.length < 4 + n
              · rw [show nextS l false = ((0, [], false, 0), l, false) from by
                  unfold nextS
                  rw [hn, hd, if_neg (by decide), if_neg h4, if_neg hb, if_neg h5, if_neg hbk, if_pos hp]]
                exact (next_part g x c n l w A (by omega) (by omega) h5' kk hk (by omega) (by omega) hp).mono fun _ _ hh => hh.to
              · rw [show nextS l false = (((kk : Int), (l.take (4 + n)).drop 5, true, 0), l.drop (4 + n), false) from by
                  unfold nextS
                  rw [hn, hd, if_neg (by decide), if_neg h4, if_neg hb, if_neg h5, if_neg hbk, if_neg hp]]
                have hk4 : w.cell? ⟨x, 4, none⟩ = some (.int .u8 kk) := by have := hown.cellAt h5'; unfold bv at this; rwa [hk] at this
                refine (next_full g x c l n (4 + n) kk w hblk hown hx (by omega) hn (by omega) (by omega) (by omega) hk4 (by omega) (by omega) rfl (by omega) hl _ _ rfl rfl).mono fun e w' hh => ?_
                obtain ⟨y, cy, z, rfl, h1, h2, h3, h6, h7, h8⟩ := hh
                have hlen : ((l.take (4 + n)).drop 5).length = 4 + n - 5 := by simp; omega
                have hgl := heap_lt hblk
                refine ⟨_, cy, [z], by simp only; rw [hlen], h1.bs, fun y' hy' => ?_, h2, h3, fun x' hx' => .inr ?_⟩
                · obtain rfl := Option.some.inj hy'
                  simp
                  omega
                · rw [List.mem_singleton] at hx'; omega
end Go.Proofs.Ytabdpebokpjljaa
