/- FrameLong: for every kind, length and byte the law answers true, and nothing that was there has turned. No condition. -/
import Derived.Test.YtabdpebokpjljaaF7
namespace Go.Proofs.Ytabdpebokpjljaa
open Go.RowKit

theorem replicate_set10 (c : UInt8) (k m : Nat) (h : k < m) : (List.replicate k c ++ List.replicate (m - k) 0).set k c = List.replicate (k + 1) c ++ List.replicate (m - (k + 1)) 0 := by
  have e : m - k = (m - (k + 1)) + 1 := by omega
  rw [List.set_append_right _ _ (by simp), e, List.replicate_succ, List.replicate_succ']
  simp

set_option maxRecDepth 100000 in
set_option maxHeartbeats 1000000 in
theorem flong_nat (kd n : Nat) (c : UInt8) (w : World) (hkd : kd < 256) (hn : n < 65536) : Calls Try.prog 13 #[.int .u8 kd, .int .u16 n, .int .u8 c.toNat] w (Yes w) := by
  obtain ⟨m, hm⟩ : ∃ m, m = n % 40000 := ⟨_, rfl⟩
  have hm7 : m < 40000 := by omega
  have hn1 : (n : Int) ≤ 65535 := by omega
  have HM := hid (show (n : Int) % 40000 = (m : Int) by omega)
  have hk1 : (kd : Int) ≤ 255 := by omega
  clear hm hn hkd
  go_enter Try.func13, Try.ntmps13
  go_wp2_with (at_make; refine wp_make rfl _ _ rfl m _ _ _ _ rfl rfl HM.out HM.out (by omega) ?_; intro w1 hown hchg)
  clear hn1
  go_loopw [8] (fun i wr => ∃ k, k ≤ m ∧ i = .int .i64 k ∧ Ow wr w.heap.size m (List.replicate k c ++ List.replicate (m - k) 0) ∧ Chg w wr [])
     (fun i _ => m - (intOf i).toNat)
  case atStart => exact ⟨0, by omega, rfl, by simpa using hown, hchg⟩
  case round =>
    obtain ⟨k, hk, rfl, hown1, hC1⟩ := hrel
    clear hown hchg
    by_cases hlt : k < m
    · have hj : k < (List.replicate k c ++ List.replicate (m - k) 0).length := by simp; omega
      obtain ⟨bb, hc⟩ : ∃ bb, wr.cell? ⟨w.heap.size, k, none⟩ = some (bv bb) := ⟨_, hown1.cellAt hj⟩
      have hf := Own.frozenAt hown1 k
      have hset := hown1.set k (.int .u8 c.toNat) c rfl
      rw [replicate_set10 c k m hlt] at hset
      have HS := hid hset
      clear hset hj
      unfold bv at hc
      go_wp2
      go_roundw
      case rel => exact ⟨k + 1, by omega, by go_num, HS.out, hC1.setCell (by simp) _⟩
      case measure => simp [intOf]; omega
    · obtain rfl : k = m := by omega
      rw [Nat.sub_self, List.replicate_zero, List.append_nil] at hown1
      have hlen : (List.replicate k c).length = k := List.length_replicate ..
      generalize hL : List.replicate k c = L at *
      clear hL
      have hbs := hown1.bs
      rw [hlen] at hbs
      have P1 := hid (fun (W : World) (h : Bs W (some ⟨w.heap.size, 0, none⟩) k k L) => fput_any (1 + (kd : Int) % 9) _ k k L W h (by omega) (by omega))
      have P2 := hid (fun (W : World) (h : Bs W (some ⟨w.heap.size, 0, none⟩) k k L) => rfput_any (1 + (kd : Int) % 9) _ k k L W h (by omega) (by omega))
      clear hlen
      generalize fputS (1 + (kd : Int) % 9) L = r at *
      obtain ⟨r1, r2⟩ := r
      go_wp2_with (first
        | (go_at_call 55; refine (P1.out _ hbs).mono ?_; rintro e w2 ⟨a2, c2, rfl, hb2, hc2, hy2⟩)
        | (go_at_call 56; refine (P2.out _ (hbs.keep hc2 (by simp))).mono ?_; rintro e w4 ⟨a4, c4, rfl, hb4, hc4, hy4⟩; have q1 := run_str (hb2.keep hc4 (by simp)); have q2 := run_str hb4)
        | (go_at_call 23; refine (works10 _).mono ?_; rintro e w7 ⟨rfl, hbel⟩))
      go_ret
      exact ⟨rfl, ((hC1.step hc2 (by simp)).step hc4 (by simp)).then_below hbel⟩

theorem flong_walk (a0 a1 a2 : Int) (w0 : (Lit.int .u8 a0).wf = true) (w1 : (Lit.int .u16 a1).wf = true) (w2 : (Lit.int .u8 a2).wf = true) (w : World) : Calls Try.prog 13 #[.int .u8 a0, .int .u16 a1, .int .u8 a2] w (Yes w) := by
  obtain ⟨x0, rfl⟩ := wf_u8 w0
  obtain ⟨x1, rfl, h1⟩ := wf_u16 w1
  obtain ⟨c, rfl⟩ := wf_u8 w2
  exact flong_nat x0.toNat x1 c w x0.toNat_lt h1
end Go.Proofs.Ytabdpebokpjljaa
