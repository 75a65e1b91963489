/- The words of memory at this program's types: slices of bytes. The laws of append and of the conversions in the walk's form. -/
import Derived.Test.YtabdpebokpjljaaRows
import Derived.Test.YtabdpebokpjljaaK
import Derived.Test.YtabdpebokpjljaaL
import Derived.Lib.AppendStr
namespace Go.Proofs.Ytabdpebokpjljaa
open Go.RowKit

/-- A byte's cell. -/
def bv (b : UInt8) : Value := .int .u8 (b.toNat : Int)

/-- The slice header reads as the bytes l. -/
def Bs (w : World) (ao : Option Addr) (n c : Nat) (l : List UInt8) : Prop :=
  n = l.length ∧ n ≤ c ∧ c ≤ maxLen ∧ (ao = none → c = 0) ∧ (∀ x, ao = some x → x.spot = none ∧ x.block < w.heap.size) ∧ Src w 1 ao n (l.map bv)

/-- Block g is a row of bytes of the call's own, of capacity c, that reads as l. -/
def Ow (w : World) (g c : Nat) (l : List UInt8) : Prop := Own w 5 1 g c l.length (l.map bv)

theorem info5 : (Try.prog.info? 5).map (fun i => (i.zero, i.size, i.bytes)) = some (some (.int .u8 0), 1, 1) := by kernel_rfl

theorem bv_one (l : List UInt8) : ∀ u ∈ l.map bv, u.oneCell' = true := by
  intro u hu
  obtain ⟨_, _, rfl⟩ := List.mem_map.1 hu
  rfl

theorem Ow.bs {w : World} {g c : Nat} {l : List UInt8} (h : Ow w g c l) : Bs w (some ⟨g, 0, none⟩) l.length c l := by
  have h' := h
  obtain ⟨cur, h1, h2, h3, h4, h5, h6⟩ := h
  exact ⟨rfl, h2, h3, by simp, fun x hx => by obtain rfl := Option.some.inj hx; exact ⟨rfl, heap_lt h1⟩, Own.src h'⟩
theorem Ow.lt {w : World} {g c : Nat} {l : List UInt8} (h : Ow w g c l) : g < w.heap.size := Own.lt h
theorem Ow.keep {w w' : World} {S : List Nat} {g c : Nat} {l : List UInt8} (h : Ow w g c l) (hg : Chg w w' S) (hn : g ∉ S) : Ow w' g c l := Own.keep h hg hn
theorem Bs.keep {w w' : World} {S : List Nat} {ao : Option Addr} {n c : Nat} {l : List UInt8} (h : Bs w ao n c l) (hg : Chg w w' S) (hn : ∀ x, ao = some x → x.block ∉ S) : Bs w' ao n c l :=
  ⟨h.1, h.2.1, h.2.2.1, h.2.2.2.1, fun x hx => ⟨(h.2.2.2.2.1 x hx).1, Nat.lt_of_lt_of_le (h.2.2.2.2.1 x hx).2 hg.size⟩, h.2.2.2.2.2.keep hg hn⟩
theorem Bs.nil (w : World) : Bs w none 0 0 [] := ⟨rfl, Nat.le_refl _, Nat.zero_le _, fun _ => rfl, by simp, rfl, fun _ => rfl, by simp⟩
theorem Bs.cell {w : World} {b o n c : Nat} {sp : Option Nat} {l : List UInt8} (h : Bs w (some ⟨b, o, sp⟩) n c l) {j : Nat} (hj : j < l.length) : w.cell? ⟨b, o + j, none⟩ = some (bv l[j]) := by
  have hs := (h.2.2.2.2.1 _ rfl).1
  have hc := h.2.2.2.2.2.2.2 _ rfl j (bv l[j]) (by simp [hj])
  simp only at hs
  subst hs
  rwa [Addr.add_lit] at hc

theorem ow_empty (w : World) : Ow (w.alloc (.cells #[] 5)) w.heap.size 0 [] :=
  ⟨#[], heap_alloc_new w _, Nat.le_refl _, Nat.zero_le _, rfl, rfl, rfl⟩
theorem Bs.src {w : World} {ao : Option Addr} {n c : Nat} {l : List UInt8} (h : Bs w ao n c l) : Src w 1 ao n (l.map bv) := h.2.2.2.2.2
theorem Bs.alloc {w : World} {ao : Option Addr} {n c : Nat} {l : List UInt8} (h : Bs w ao n c l) (o : Obj) : Bs (w.alloc o) ao n c l :=
  h.keep ((Chg.refl w []).alloc o) (by simp)
theorem Ow.alloc {w : World} {g c : Nat} {l : List UInt8} (h : Ow w g c l) (o : Obj) : Ow (w.alloc o) g c l := h.keep ((Chg.refl w []).alloc o) (by simp)
theorem Src.one (w : World) (b : UInt8) : Src (w.alloc (.cells #[bv b] 5)) 1 (some ⟨w.heap.size, 0, none⟩) 1 ([b].map bv) :=
  Src.of_one (by simp [World.cell?_alloc_new])

theorem Src.oneOf (w : World) (v : Value) (b : UInt8) (h : v = bv b) : Src (w.alloc (.cells #[v] 5)) 1 (some ⟨w.heap.size, 0, none⟩) 1 ([b].map bv) := by
  subst h; exact Src.one w b

/-- append onto a row of bytes of the call's own, in the walk's form. -/
theorem wp_app {ops : Array Oper} {rest : List Oper} {o : Oper} {a : Act} {w : World} {Q : Exit → Act → World → Prop} (hgd : o.guard = none) (s x : Operand)
    (ho : o.op = .call { callee := .builtin .append, args := #[s, x], argTypes := #[27, 27] })
    (g c n : Nat) (l : List UInt8) (hs : a.eval s = .slice (some ⟨g, 0, none⟩) n c) (hn : n = l.length) (hown : Ow w g c l)
    (ao : Option Addr) (m cx : Nat) (l2 : List UInt8) (hx : a.eval x = .slice ao m cx) (hb : Src w 1 ao m (l2.map bv)) (hmax : l.length + l2.length ≤ 10000000)
    (h : ∀ g' c' w', Ow w' g' c' (l ++ l2) → Chg w w' [g] → (g' = g ∨ w.heap.size ≤ g') → wpList Try.prog ops Q rest (a.put o.dst (.slice (some ⟨g', 0, none⟩) (n + m) c')) w') :
    wpList Try.prog ops Q (o :: rest) a w := by
  subst hn
  obtain ⟨i, hi, hz0, hz1, hz2⟩ := info_parts info5
  have hm : m = l2.length := by have := hb.1; simpa using this.symm
  subst hm
  obtain ⟨g', c', w', hr, h2, h3, h4⟩ := run_app (P := Try.prog) w 27 o.type 5 i (.int .u8 0) 1 1 Try.underlying27 hi hz0 hz1 hz2 rfl g c l.length _ hown ao l2.length cx _ hb (bv_one l2) (by unfold maxLen; omega) (by omega)
  refine wpList_plain hgd fun K hK => ?_
  unfold Oper.wp execOp
  simp only [ho, resolve, invoke, builtin, Sem.run_bind, Sem.run_pure, Result.andThen_ok, List.map_toArray, List.map_cons, List.map_nil, hs, hx, hr]
  refine hK _ _ (h g' c' w' ?_ h3 h4)
  have e : l.length + l2.length = (l ++ l2).length := by simp
  unfold Ow
  rw [List.map_append, ← e]
  exact h2

/-- append(b, s...), s a string, onto a row of bytes of the call's own, in the walk's form. -/
theorem wp_appS {ops : Array Oper} {rest : List Oper} {o : Oper} {a : Act} {w : World} {Q : Exit → Act → World → Prop} (hgd : o.guard = none) (sl x : Operand)
    (ho : o.op = .call { callee := .builtin .append, args := #[sl, x], argTypes := #[27, 9] })
    (g c n : Nat) (l : List UInt8) (hs : a.eval sl = .slice (some ⟨g, 0, none⟩) n c) (hn : n = l.length) (hown : Ow w g c l)
    (s : ByteArray) (hx : a.eval x = .string s) (hmax : l.length + s.size ≤ 10000000)
    (h : ∀ g' c' w', Ow w' g' c' (l ++ s.data.toList) → Chg w w' [g] → (g' = g ∨ w.heap.size ≤ g') → wpList Try.prog ops Q rest (a.put o.dst (.slice (some ⟨g', 0, none⟩) (n + s.size) c')) w') :
    wpList Try.prog ops Q (o :: rest) a w := by
  subst hn
  obtain ⟨i, hi, hz0, hz1, hz2⟩ := info_parts info5
  have hown0 : Own w 5 1 g c l.length (l.map bv) := hown
  obtain ⟨cur, hg, hnc, hcm, hcs, hxl, htake⟩ := hown
  have hdl : s.data.toList.length = s.size := by rw [Array.length_toList]; rfl
  have hbv : Lib.strCells s = s.data.toList.map bv := rfl
  have hlen : (l ++ s.data.toList).length = l.length + s.size := by rw [List.length_append, hdl]
  have hr : ∃ g' c' w', (Builtin.append_ #[27, 9] o.type #[.slice (some ⟨g, 0, none⟩) l.length c, .string s]).run Try.prog w = .ok (.slice (some ⟨g', 0, none⟩) (l.length + s.size) c') w' ∧
      Ow w' g' c' (l ++ s.data.toList) ∧ Chg w w' [g] ∧ (g' = g ∨ w.heap.size ≤ g') := by
    by_cases hroom : l.length + s.size ≤ c
    · have hr := Lib.run_append_room_string (P := Try.prog) w 27 9 o.type 5 i Try.underlying27 Try.underlying9 hi hz1 g l.length c cur hg s hroom (by omega)
      refine ⟨g, c, _, hr, ⟨_, setRow_heap w g cur _ 5 _ hg, by omega, hcm, ?_, by simp, ?_⟩, ⟨rfl, rfl, rfl, by simp, fun k _ hk => setRow_other w g k _ (by simpa using hk)⟩, .inl rfl⟩
      · simp only [List.size_toArray, List.length_append, List.length_take, List.length_drop, Array.length_toList, Lib.strCells_length]
        omega
      · rw [Nat.mul_one] at htake ⊢
        rw [htake, hbv, ← List.map_append]
        exact List.take_left' (by simp)
    · have hr := Lib.run_append_grow_string (P := Try.prog) w 27 9 o.type 5 i (.int .u8 0) Try.underlying27 Try.underlying9 hi hz0 ⟨g, 0, none⟩ l.length c (l.map bv) (by rw [hz1]; exact hxl)
        (fun j u hu => by rw [Addr.add_lit, Nat.zero_add]; exact hown0.cellAt hu) s (by omega) (by omega) (growslice_fits (by omega) (by rw [hz2]; omega))
      have hge := grownCap_ge w (l.length + s.size) c 5
      have hcm' : grownCap w (l.length + s.size) c 5 ≤ maxLen := grownCap_le_maxLen w (l.length + s.size) c 5 (by unfold maxLen; omega)
      refine ⟨w.heap.size, _, _, hr, ⟨_, heap_alloc_new w.drew _, by omega, hcm', ?_, by simp, ?_⟩, ⟨rfl, rfl, rfl, by simp, fun k hk _ => Below.heap_alloc w.drew _ k hk⟩, .inr (Nat.le_refl _)⟩
      · simp only [Array.size_append, List.size_toArray, size_zeroCells, List.length_map, Lib.strCells_length, Value.cells, List.size_toArray, List.length_cons, List.length_nil]
        omega
      · rw [Nat.mul_one, hbv, Array.toList_append, Array.toList_append, ← List.map_append]
        exact List.take_left' (by simp)
  obtain ⟨g', c', w', hr, h2, h3, h4⟩ := hr
  refine wpList_plain hgd fun K hK => ?_
  unfold Oper.wp execOp
  simp only [ho, resolve, invoke, builtin, Sem.run_bind, Sem.run_pure, Result.andThen_ok, List.map_toArray, List.map_cons, List.map_nil, hs, hx, hr]
  exact hK _ _ (h g' c' w' h2 h3 h4)

/-- append onto nil, in the walk's form: something is appended. -/
theorem wp_app_nil {ops : Array Oper} {rest : List Oper} {o : Oper} {a : Act} {w : World} {Q : Exit → Act → World → Prop} (hgd : o.guard = none) (s x : Operand)
    (ho : o.op = .call { callee := .builtin .append, args := #[s, x], argTypes := #[27, 27] }) (hs : a.eval s = .slice none 0 0)
    (ao : Option Addr) (m cx : Nat) (l2 : List UInt8) (hx : a.eval x = .slice ao m cx) (hb : Src w 1 ao m (l2.map bv)) (hmax : l2.length ≤ 10000000) (hpos : 0 < l2.length)
    (h : ∀ g' c' w', Ow w' g' c' l2 → Chg w w' [] → w.heap.size ≤ g' → wpList Try.prog ops Q rest (a.put o.dst (.slice (some ⟨g', 0, none⟩) l2.length c')) w') :
    wpList Try.prog ops Q (o :: rest) a w := by
  obtain ⟨i, hi, hz0, hz1, hz2⟩ := info_parts info5
  have hm : m = l2.length := by have := hb.1; simpa using this.symm
  subst hm
  obtain ⟨g', c', w', hr, h2, h3, h4⟩ := run_app_nil (P := Try.prog) w 27 o.type 5 i (.int .u8 0) 1 1 Try.underlying27 hi hz0 hz1 hz2 rfl ao l2.length cx _ hb (by unfold maxLen; omega) (by omega) hpos
  refine wpList_plain hgd fun K hK => ?_
  unfold Oper.wp execOp
  simp only [ho, resolve, invoke, builtin, Sem.run_bind, Sem.run_pure, Result.andThen_ok, List.map_toArray, List.map_cons, List.map_nil, hs, hx, hr]
  exact hK _ _ (h g' c' w' h2 h3 h4)

/-- The string of these bytes. -/
def str (l : List UInt8) : ByteArray := ⟨l.toArray⟩

@[go_sem] theorem str_toList (l : List UInt8) : (str l).toList = l := by rw [ByteArray.toList_eq]; simp [str]

@[go_sem] theorem str_size (l : List UInt8) : (str l).size = l.length := rfl
theorem str_data (l : List UInt8) : (str l).data.toList = l := by simp [str]
theorem Bs.drew {w : World} {ao : Option Addr} {n c : Nat} {l : List UInt8} (h : Bs w ao n c l) : Bs w.drew ao n c l := h.keep (Chg.refl w []).drew (by simp)

/-- string(b), as an equation for the walk. -/
theorem run_str {w : World} {ao : Option Addr} {n c : Nat} {l : List UInt8} (h : Bs w ao n c l) : (convert 27 9 (.slice ao n c)).run Try.prog w = .ok (.string (str l)) w := by
  obtain ⟨rfl, h2, h3, h4, h5, h6⟩ := h
  cases ao with
  | none =>
    have hl : l = [] := List.eq_nil_of_length_eq_zero (h6.2.1 rfl)
    subst hl
    rw [run_convert_bytes_string w 27 9 5 none _ c Try.underlying27 Try.underlying5 Try.underlying9]
    rfl
  | some x =>
    refine run_convert_bytes_back w 27 9 5 x c l Try.underlying27 Try.underlying5 Try.underlying9 (fun j hj => ?_)
    exact h6.2.2 x rfl j _ (by simp [hj, bv])

/-- string(b), in the walk's form. -/
theorem wp_str {ops : Array Oper} {rest : List Oper} {o : Oper} {a : Act} {w : World} {Q : Exit → Act → World → Prop} (hgd : o.guard = none) (x : Operand)
    (ho : o.op = .convert 27 9 x) (ao : Option Addr) (n c : Nat) (l : List UInt8) (hs : a.eval x = .slice ao n c) (hb : Bs w ao n c l)
    (h : wpList Try.prog ops Q rest (a.put o.dst (.string (str l))) w) : wpList Try.prog ops Q (o :: rest) a w := by
  have hr := run_str hb
  refine wpList_plain hgd fun K hK => ?_
  unfold Oper.wp execOp
  simp only [ho, hs, hr, Sem.run_bind, Sem.run_pure, Result.andThen_ok]
  exact hK _ _ h

/-- []byte(s), in the walk's form. -/
theorem wp_bytes {ops : Array Oper} {rest : List Oper} {o : Oper} {a : Act} {w : World} {Q : Exit → Act → World → Prop} (hgd : o.guard = none) (x : Operand)
    (ho : o.op = .convert 9 27 x) (s : ByteArray) (hs : a.eval x = .string s) (hmax : s.size ≤ maxLen)
    (h : ∀ c w', Bs w' (some ⟨w.heap.size, 0, none⟩) s.size c s.data.toList → (∀ j, j < c → w'.frozen? ⟨w.heap.size, j, none⟩ = false) → Chg w w' [] → w.heap.size < w'.heap.size →
      wpList Try.prog ops Q rest (a.put o.dst (.slice (some ⟨w.heap.size, 0, none⟩) s.size c)) w') :
    wpList Try.prog ops Q (o :: rest) a w := by
  have hr := run_bytes_of_string (P := Try.prog) w 9 27 5 s Try.underlying9 Try.underlying27 Try.underlying5
  refine wpList_plain hgd fun K hK => ?_
  unfold Oper.wp execOp
  simp only [ho, hs, hr, Sem.run_bind, Sem.run_pure, Result.andThen_ok]
  have hge := grownCap_ge w s.size 0 5
  have hcm := grownCap_le_maxLen w s.size 0 5 hmax
  have hsz : (bytesRow s (grownCap w s.size 0 5)).size = grownCap w s.size 0 5 := by
    simp only [bytesRow, Array.size_append, Array.size_map, Array.size_replicate]
    have : s.data.size = s.size := rfl
    omega
  refine hK _ _ (h _ _ ⟨by simp, hge, hcm, by simp, fun y hy => ?_, by simp, by simp, fun y hy j u hu => ?_⟩ (fun j hj => ?_) ?_ (by simp))
  · obtain rfl := Option.some.inj hy
    exact ⟨rfl, by simp⟩
  · obtain rfl := Option.some.inj hy
    rw [Addr.add_lit, Nat.zero_add]
    have hm : (w.drew.alloc (.cells (bytesRow s (grownCap w s.size 0 5)) 5 ((bytesRow s (grownCap w s.size 0 5)).size, (bytesRow s (grownCap w s.size 0 5)).size + 1))).cell? ⟨w.heap.size, j, none⟩ = (bytesRow s (grownCap w s.size 0 5))[j]? :=
      World.cell?_alloc_mark w.drew _ 5 _ j
    rw [hm]
    have hj : j < s.data.toList.length := by
      have := (List.getElem?_eq_some_iff.1 hu).1
      simpa using this
    have hj' : j < s.data.size := by simpa using hj
    rw [← hu, bytesRow, Array.getElem?_append_left (by simpa using hj')]
    simp only [Array.getElem?_map, List.getElem?_map, Array.getElem?_toList]
    rfl
  · have hb : (w.drew.alloc (.cells (bytesRow s (grownCap w s.size 0 5)) 5 ((bytesRow s (grownCap w s.size 0 5)).size, (bytesRow s (grownCap w s.size 0 5)).size + 1))).heap[w.heap.size]? = _ := heap_alloc_new w.drew _
    simp only [World.frozen?, hb]
    rw [hsz]
    simp
    omega
  · exact (Chg.refl w []).drew.alloc _

end Go.Proofs.Ytabdpebokpjljaa
