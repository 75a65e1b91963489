/- FrameFull: for every two lengths the law answers true, and nothing that was there has turned. No condition. -/
import Derived.Test.YtabdpebokpjljaaF6
namespace Go.Proofs.Ytabdpebokpjljaa
open Go.RowKit

theorem full_push (w0 : World) (g : Nat) (xs : List Nat) (j m : Nat) (hj : j ≤ 200000) (hm : m ≤ 200000) (W : World) (a c : Nat) (h : RdIn w0 W g xs (List.replicate j 0) false) (hb : Ow W a c (List.replicate m 0)) :
    Calls Try.prog 21 #[.pointer (some ⟨g, 0, none⟩), .slice (some ⟨a, 0, none⟩) m c] W
      (RdOut w0 W g xs (.int .i64 (if 131072 < j + m then 3 else 0)) (List.replicate (if 131072 < j + m then j else j + m) 0) false) := by
  have hbs := hb.bs
  rw [List.length_replicate] at hbs
  have := push_in w0 g xs _ false _ m c _ W h hbs (by simp; omega) (by simp; omega)
  unfold pushS at this
  rw [if_neg (by decide), List.length_replicate, List.length_replicate] at this
  split at this
  · rename_i hc
    rwa [if_pos hc, if_pos hc]
  · rename_i hc
    rw [if_neg hc, if_neg hc]
    simp only [List.replicate_append_replicate] at this
    exact this

set_option maxRecDepth 100000 in
set_option maxHeartbeats 1000000 in
theorem full_nat (n1 n2 : Nat) (w : World) (h1 : n1 < 4294967296) (h2 : n2 < 4294967296) : Calls Try.prog 3 #[.int .u32 n1, .int .u32 n2] w (Yes w) := by
  obtain ⟨m, hm⟩ : ∃ m, m = n1 % 140000 := ⟨_, rfl⟩
  obtain ⟨k, hk⟩ : ∃ k, k = n2 % 140000 := ⟨_, rfl⟩
  have b1 : (n1 : Int) ≤ 4294967295 := by omega
  have b2 : (n2 : Int) ≤ 4294967295 := by omega
  have HM := hid (show (n1 : Int) % 140000 = (m : Int) by omega)
  have HK := hid (show (n2 : Int) % 140000 = (k : Int) by omega)
  have hm2 : m ≤ 200000 := by omega
  have hk2 : k ≤ 200000 := by omega
  have P1 := hid (fun (W : World) (g : Nat) (xs : List Nat) (a c : Nat) => full_push w g xs 0 m (by omega) hm2 W a c)
  have P2 := hid (fun (j : Nat) (hj : j ≤ 200000) (W : World) (g : Nat) (xs : List Nat) (a c : Nat) => full_push w g xs j k hj hk2 W a c)
  have P3 := hid (fun (W : World) (g : Nat) (xs : List Nat) (j : Nat) (h : RdIn w W g xs (List.replicate j 0) false) => held_any g xs _ false W h.rd)
  have d0 : (0 : Int) ≤ (n1 : Int) % 140000 := by omega
  have d0' : (0 : Int) ≤ (n2 : Int) % 140000 := by omega
  have d9 : (n1 : Int) % 140000 ≤ 139999 := by omega
  have d9' : (n2 : Int) % 140000 ≤ 139999 := by omega
  by_cases ha : m ≤ 131072
  · have d1 : (n1 : Int) % 140000 ≤ 131072 := by omega
    have P1 := P1.out
    rw [Nat.zero_add, if_neg (by omega), if_neg (by omega)] at P1
    have P1 := hid P1
    by_cases hb : m + k ≤ 131072
    · have d2 : (n1 : Int) % 140000 + (n2 : Int) % 140000 ≤ 131072 := by omega
      have q1 : (((m + k : Nat) : Int) == (n1 : Int) % 140000 + (n2 : Int) % 140000) = true := by rw [beq_iff_eq]; omega
      have P2 := P2.out m (by omega)
      rw [if_neg (by omega), if_neg (by omega)] at P2
      have P2 := hid P2
      have P3 := fun (W : World) (g : Nat) (xs : List Nat) => P3.out W g xs (m + k)
      rw [List.length_replicate] at P3
      have P3 := hid P3
      generalize m + k = mk at *
      clear hm hk h1 h2 ha hb
      go_enter Try.func3, Try.ntmps3
      go_wp2_with (first
        | (go_at_call 20; refine (new_in _).mono ?_; rintro e w1 ⟨g, rfl, hr1, hg1⟩)
        | (at_make; refine wp_make rfl _ _ rfl m _ _ _ _ rfl rfl HM.out HM.out (by omega) ?_; intro w2 hown2 hchg2; have hr2 := hid (hr1.new hchg2); clear hr1)
        | (at_make; refine wp_make rfl _ _ rfl k _ _ _ _ rfl rfl HK.out HK.out (by omega) ?_; intro w4 hown4 hchg4; have hr4 := hid (hr3.new hchg4); clear hr3)
        | (go_at_call 21; refine (P1.out _ _ _ _ _ hr2.out hown2).mono ?_; rintro e w3 ⟨rfl, xs3, hr3, hc3, hx3⟩; clear hown2)
        | (go_at_call 21; refine (P2.out _ _ _ _ _ hr4.out hown4).mono ?_; rintro e w5 ⟨rfl, xs5, hr5, hc5, hx5⟩; clear hown4)
        | (go_at_call 22; refine (P3.out _ _ _ hr5).mono ?_; rintro e w6 ⟨rfl, rfl⟩)
        | (go_at_call 23; refine (works10 _).mono ?_; rintro e w7 ⟨rfl, hbel⟩))
      go_ret
      exact ⟨rfl, hr5.chg.then_below hbel⟩
    · have d2 : (131072 : Int) < (n1 : Int) % 140000 + (n2 : Int) % 140000 := by omega
      have q1 : (((m : Nat) : Int) == (n1 : Int) % 140000) = true := by rw [beq_iff_eq]; omega
      have P2 := P2.out m (by omega)
      rw [if_pos (by omega), if_pos (by omega)] at P2
      have P2 := hid P2
      have P3 := fun (W : World) (g : Nat) (xs : List Nat) => P3.out W g xs (m)
      rw [List.length_replicate] at P3
      have P3 := hid P3
      clear hm hk h1 h2 ha hb
      go_enter Try.func3, Try.ntmps3
      go_wp2_with (first
        | (go_at_call 20; refine (new_in _).mono ?_; rintro e w1 ⟨g, rfl, hr1, hg1⟩)
        | (at_make; refine wp_make rfl _ _ rfl m _ _ _ _ rfl rfl HM.out HM.out (by omega) ?_; intro w2 hown2 hchg2; have hr2 := hid (hr1.new hchg2); clear hr1)
        | (at_make; refine wp_make rfl _ _ rfl k _ _ _ _ rfl rfl HK.out HK.out (by omega) ?_; intro w4 hown4 hchg4; have hr4 := hid (hr3.new hchg4); clear hr3)
        | (go_at_call 21; refine (P1.out _ _ _ _ _ hr2.out hown2).mono ?_; rintro e w3 ⟨rfl, xs3, hr3, hc3, hx3⟩; clear hown2)
        | (go_at_call 21; refine (P2.out _ _ _ _ _ hr4.out hown4).mono ?_; rintro e w5 ⟨rfl, xs5, hr5, hc5, hx5⟩; clear hown4)
        | (go_at_call 22; refine (P3.out _ _ _ hr5).mono ?_; rintro e w6 ⟨rfl, rfl⟩)
        | (go_at_call 23; refine (works10 _).mono ?_; rintro e w7 ⟨rfl, hbel⟩))
      go_ret
      exact ⟨rfl, hr5.chg.then_below hbel⟩
  · have d1 : (131072 : Int) < (n1 : Int) % 140000 := by omega
    have P1 := P1.out
    rw [Nat.zero_add, if_pos (by omega), if_pos (by omega)] at P1
    have P1 := hid P1
    by_cases hb : k ≤ 131072
    · have d2 : (n2 : Int) % 140000 ≤ 131072 := by omega
      have q1 : (((k : Nat) : Int) == (n2 : Int) % 140000) = true := by rw [beq_iff_eq]; omega
      have P2 := P2.out 0 (by omega)
      rw [Nat.zero_add] at P2
      rw [if_neg (by omega), if_neg (by omega)] at P2
      have P2 := hid P2
      have P3 := fun (W : World) (g : Nat) (xs : List Nat) => P3.out W g xs (k)
      rw [List.length_replicate] at P3
      have P3 := hid P3
      clear hm hk h1 h2 ha hb
      go_enter Try.func3, Try.ntmps3
      go_wp2_with (first
        | (go_at_call 20; refine (new_in _).mono ?_; rintro e w1 ⟨g, rfl, hr1, hg1⟩)
        | (at_make; refine wp_make rfl _ _ rfl m _ _ _ _ rfl rfl HM.out HM.out (by omega) ?_; intro w2 hown2 hchg2; have hr2 := hid (hr1.new hchg2); clear hr1)
        | (at_make; refine wp_make rfl _ _ rfl k _ _ _ _ rfl rfl HK.out HK.out (by omega) ?_; intro w4 hown4 hchg4; have hr4 := hid (hr3.new hchg4); clear hr3)
        | (go_at_call 21; refine (P1.out _ _ _ _ _ hr2.out hown2).mono ?_; rintro e w3 ⟨rfl, xs3, hr3, hc3, hx3⟩; clear hown2)
        | (go_at_call 21; refine (P2.out _ _ _ _ _ hr4.out hown4).mono ?_; rintro e w5 ⟨rfl, xs5, hr5, hc5, hx5⟩; clear hown4)
        | (go_at_call 22; refine (P3.out _ _ _ hr5).mono ?_; rintro e w6 ⟨rfl, rfl⟩)
        | (go_at_call 23; refine (works10 _).mono ?_; rintro e w7 ⟨rfl, hbel⟩))
      go_ret
      exact ⟨rfl, hr5.chg.then_below hbel⟩
    · have d2 : (131072 : Int) < (n2 : Int) % 140000 := by omega
      have P2 := P2.out 0 (by omega)
      rw [Nat.zero_add] at P2
      rw [if_pos (by omega), if_pos (by omega)] at P2
      have P2 := hid P2
      have P3 := fun (W : World) (g : Nat) (xs : List Nat) => P3.out W g xs (0)
      rw [List.length_replicate] at P3
      have P3 := hid P3
      clear hm hk h1 h2 ha hb
      go_enter Try.func3, Try.ntmps3
      go_wp2_with (first
        | (go_at_call 20; refine (new_in _).mono ?_; rintro e w1 ⟨g, rfl, hr1, hg1⟩)
        | (at_make; refine wp_make rfl _ _ rfl m _ _ _ _ rfl rfl HM.out HM.out (by omega) ?_; intro w2 hown2 hchg2; have hr2 := hid (hr1.new hchg2); clear hr1)
        | (at_make; refine wp_make rfl _ _ rfl k _ _ _ _ rfl rfl HK.out HK.out (by omega) ?_; intro w4 hown4 hchg4; have hr4 := hid (hr3.new hchg4); clear hr3)
        | (go_at_call 21; refine (P1.out _ _ _ _ _ hr2.out hown2).mono ?_; rintro e w3 ⟨rfl, xs3, hr3, hc3, hx3⟩; clear hown2)
        | (go_at_call 21; refine (P2.out _ _ _ _ _ hr4.out hown4).mono ?_; rintro e w5 ⟨rfl, xs5, hr5, hc5, hx5⟩; clear hown4)
        | (go_at_call 22; refine (P3.out _ _ _ hr5).mono ?_; rintro e w6 ⟨rfl, rfl⟩)
        | (go_at_call 23; refine (works10 _).mono ?_; rintro e w7 ⟨rfl, hbel⟩))
      go_ret
      exact ⟨rfl, hr5.chg.then_below hbel⟩

theorem full_walk (a0 a1 : Int) (w0 : (Lit.int .u32 a0).wf = true) (w1 : (Lit.int .u32 a1).wf = true) (w : World) : Calls Try.prog 3 #[.int .u32 a0, .int .u32 a1] w (Yes w) := by
  obtain ⟨n, rfl, hn⟩ := wf_u32 w0
  obtain ⟨m, rfl, hm⟩ := wf_u32 w1
  exact full_nat n m w hn hm
end Go.Proofs.Ytabdpebokpjljaa
