/- Walks: Tape.Bytes and PutText of package bytes. -/
import Derived.Test.YtabdpebokpjljaaW4
namespace Go.Proofs.Ytabdpebokpjljaa
open Go.RowKit

/-- What Bytes leaves. -/
def BytesTo (w : World) (g r : Nat) (l' : List UInt8) (s' : St) (e : Ending) (w' : World) : Prop :=
  ∃ x c, e = .returned (.slice (some ⟨x, 0, none⟩) l'.length c) ∧ Ow w' x c l' ∧ Tp w' g r s' ∧ Chg w w' [g] ∧ w.heap.size ≤ x

theorem bytes_end {w w1 w2 : World} {g r x : Nat} {s : St} (h1 : Tp w1 g r s) (h2 : Chg w w1 [g]) (h3 : Chg (w1.alloc (.cells #[] 5)) w2 [w1.heap.size]) (h4 : x = w1.heap.size ∨ (w1.alloc (.cells #[] 5)).heap.size ≤ x) :
    Tp w2 g r s ∧ Chg w w2 [g] ∧ w.heap.size ≤ x := by
  have hl := h1.lt
  have hs := h2.size
  have h5 : Chg w1 w2 [] := ((Chg.refl w1 []).alloc _).trans h3 (by simp)
  refine ⟨h1.keep h5 (by simp) (by simp), h2.trans h5 (by simp), ?_⟩
  simp at h4
  omega

set_option maxHeartbeats 400000 in
theorem bytes_any (g r : Nat) (s : St) (n : Int) (w : World) (h : Tp w g r s) (hl : s.1.length ≤ 1000000) :
    Calls Try.prog 52 #[.pointer (some ⟨g, 0, none⟩), .int .i64 n] w (BytesTo w g r (bytesS s n).1 (bytesS s n).2) := by
  obtain ⟨l, t⟩ := s
  simp only at hl
  cases t with
  | true =>
    have e : bytesS (l, true) n = ([], (l, true)) := by simp [bytesS]
    rw [e]
    go_enter Try.func52, Try.ntmps52
    go_wp2_with (first
      | (go_at_call 66; refine (take_torn g r l n _ h).mono ?_; rintro e w1 ⟨rfl, h1, h2⟩)
      | (at_builtin; refine wp_app rfl _ _ rfl w1.heap.size 0 0 [] rfl rfl (ow_empty w1) none 0 0 [] rfl (Bs.nil _).src (by simp) ?_; intro x c' w2 hown hchg hor))
    go_ret
    obtain ⟨k1, k2, k3⟩ := bytes_end h1 h2 hchg hor
    exact ⟨x, c', rfl, hown, k1, k2, k3⟩
  | false =>
    by_cases hok : 0 ≤ n ∧ n ≤ l.length
    · have e : bytesS (l, false) n = (l.take n.toNat, (l.drop n.toNat, false)) := by simp [bytesS, hok]
      rw [e]
      clear e
      obtain ⟨k, rfl⟩ := Int.eq_ofNat_of_zero_le hok.1
      have hk : k ≤ l.length := by omega
      clear hok
      rw [Int.toNat_natCast]
      have hlt : (l.take k).length = k := by simp; omega
      have HL := hid hlt
      obtain ⟨o, c, h⟩ := h
      simp only at h
      have hne := h.2.1
      have hb := h.2.2.take k hk
      clear hlt
      generalize l.take k = l1 at *
      go_enter Try.func52, Try.ntmps52
      go_wp2_with (first
        | (go_at_call 66; refine (take_ok g r o c l k _ h hk).mono ?_; rintro e w1 ⟨rfl, h1, h2⟩)
        | (at_builtin; refine wp_app rfl _ _ rfl w1.heap.size 0 0 [] rfl rfl (ow_empty w1) (some ⟨r, o, none⟩) k k l1 rfl ((hb.keep h2 (by simp; exact hne)).alloc _).src (by rw [HL.out]; simp; omega) ?_; intro x c' w2 hown hchg hor))
      go_ret
      obtain ⟨k1, k2, k3⟩ := bytes_end h1 h2 hchg hor
      refine ⟨x, c', ?_, hown, k1, k2, k3⟩
      rw [HL.out]
      rfl
    · have e : bytesS (l, false) n = ([], (l, true)) := by rw [bytesS, if_neg]; intro hx; exact hok ⟨hx.2.1, hx.2.2⟩
      rw [e]
      have hk : n < 0 ∨ (l.length : Int) < n := by omega
      clear hok e
      go_enter Try.func52, Try.ntmps52
      go_wp2_with (first
        | (go_at_call 66; refine (take_bad g r l n _ h hk).mono ?_; rintro e w1 ⟨rfl, h1, h2⟩)
        | (at_builtin; refine wp_app rfl _ _ rfl w1.heap.size 0 0 [] rfl rfl (ow_empty w1) none 0 0 [] rfl (Bs.nil _).src (by simp) ?_; intro x c' w2 hown hchg hor))
      go_ret
      obtain ⟨k1, k2, k3⟩ := bytes_end h1 h2 hchg hor
      exact ⟨x, c', rfl, hown, k1, k2, k3⟩

/-- A row of its own beside an error's number. -/
def NewRowE (w : World) (l : List UInt8) (k : Int) (e : Ending) (w' : World) : Prop :=
  ∃ g c, e = .returned (.tuple #[.slice (some ⟨g, 0, none⟩) l.length c, .int .i64 k]) ∧ Ow w' g c l ∧ Chg w w' [] ∧ w.heap.size ≤ g

set_option maxHeartbeats 400000 in
theorem putText_long (v : Value) (s : ByteArray) (w : World) (hs : 65535 < s.size) (hs2 : s.size ≤ 9223372036854775807) :
    Calls Try.prog 30 #[v, .string s] w fun e w' => e = .returned (.tuple #[.slice none 0 0, .int .i64 3]) ∧ w = w' := by
  have h1 : (65535 : Int) < (s.size : Int) := by omega
  go_enter Try.func30, Try.ntmps30
  go_wp2
  go_ret2
  exact ⟨rfl, rfl⟩

/-- The encoding of a text. -/
def encT (s : List UInt8) : List UInt8 := enc 2 s.length ++ s

set_option maxHeartbeats 400000 in
theorem putText_ok (ao : Option Addr) (n1 c : Nat) (l : List UInt8) (s : ByteArray) (w : World) (hb : Bs w ao n1 c l) (hl : l.length ≤ 900000) (hs : s.size ≤ 65535) :
    Calls Try.prog 30 #[.slice ao n1 c, .string s] w (NewRowE w (l ++ encT s.data.toList) 0) := by
  have h1 : ¬ ((65535 : Int) < (s.size : Int)) := by omega
  have h2 : (s.size : Int) ≤ 65535 := by omega
  have hp := put_any ao n1 c l 2 s.size w hb (by omega) (by omega)
  have e2 : encW 2 s.size = enc 2 s.size := by
    have : mayW 2 := by unfold mayW; omega
    rw [encW, if_pos this]
    rfl
  rw [e2] at hp
  have HP := hid hp
  have hlen : (l ++ enc 2 s.size).length ≤ 900002 := by simp [enc_length]; omega
  have hdl : s.data.toList.length = s.size := by rw [Array.length_toList]; rfl
  have hll : (l ++ encT s.data.toList).length = (l ++ enc 2 s.size).length + s.size := by simp only [encT, List.length_append, hdl]; omega
  have HL := hid hll
  have HD := hid hdl
  clear hp e2 hdl hll
  generalize hg : l ++ enc 2 s.size = l1 at *
  have HG := hid hg
  clear hg
  go_enter Try.func30, Try.ntmps30
  go_wp2_with (first
    | (go_at_call 29; refine HP.out.mono ?_; rintro e w1 ⟨g, c1, rfl, hown1, hchg1, hge1⟩)
    | (at_builtin; refine wp_appS rfl _ _ rfl g c1 l1.length l1 rfl rfl hown1 s rfl (by omega) ?_; intro x c2 w2 hown2 hchg2 hor))
  go_ret2
  refine ⟨x, c2, ?_, ?_, hchg1.trans hchg2 ?_, ?_⟩
  · rw [HL.out]; rfl
  · rw [← HG.out] at hown2
    rw [encT, ← List.append_assoc, HD.out]
    exact hown2
  · intro i hi
    simp at hi
    omega
  · have := hchg1.size
    omega
end Go.Proofs.Ytabdpebokpjljaa
