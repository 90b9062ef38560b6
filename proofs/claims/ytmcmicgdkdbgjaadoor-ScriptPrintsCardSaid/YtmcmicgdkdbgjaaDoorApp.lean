/- Memory that a call makes: append onto a row of its own; cuts of slices. No program in sight. -/
import Derived.Test.YtmcmicgdkdbgjaaDoorMem
import Derived.Maps.AppendAt
import Derived.Lib.AppendZeros
import Derived.Deep.RegionWith
import Derived.StillTailTactics
import Derived.RegionTactic
import Derived.Deep.DrawnRows
import Derived.Deep.DeepCutAuto
import Derived.Deep.DeepFit
import Derived.Deep.LoopGhost
import Derived.Deep.RegionLaw
import Derived.Deep.RegionHeld3
namespace Go.Proofs.YtmcmicgdkdbgjaaDoor
open Go.RowKit

/-- A slice type t of elements e, 'size' cells each. -/
structure AppT (P : Program) (t e : TypeId) (size : Nat) : Prop where
  under : P.underlying t = some (.slice e)
  info : ∃ i z, P.info? e = some i ∧ i.zero = some z ∧ i.size = size ∧ i.bytes ≤ 32768 ∧ z.cells.size = size
  pos : 0 < size

theorem appT_mk {P : Program} {t e : TypeId} {size bytes : Nat} {z : Value} (ht : P.underlying t = some (.slice e)) (hi : (P.info? e).map (fun i => (i.zero, i.size, i.bytes)) = some (some z, size, bytes))
    (hz : z.cells.size = size) (hp : 0 < size) (hb : bytes ≤ 32768) : AppT P t e size := by
  obtain ⟨i, hi, h1, h2, h3⟩ := info_parts hi
  exact ⟨ht, ⟨i, z, hi, h1, h2, by omega, hz⟩, hp⟩

section
variable {P : Program} {w : World} {t e : TypeId} {size : Nat}

theorem AppT.run_size (T : AppT P t e size) (w : World) : (sizeOf e).run P w = .ok size w := by
  obtain ⟨i, z, hi, _, h2, _⟩ := T.info
  simp [sizeOf, typeInfo, hi, h2]
theorem AppT.elem_ (T : AppT P t e size) : P.elem t = e := by
  simp [Program.elem, T.under]

theorem run_app (T : AppT P t e size) (ty : TypeId) {base : Nat} {v : Value} {n : Nat} {xs : List Value} (hown : w.ownsRow base e size v n xs)
    {A : Option Addr} {m c : Nat} {news : List Value} (hr : Sl w size A m c news) (h1 : news.all (fun u => u.oneCell') = true) (hb : n + m ≤ 4294967296) (hbase : base ≤ w.heap.size) :
    ∃ v' w', (Builtin.append_ #[t, t] ty #[v, .slice A m c]).run P w = .ok v' w' ∧ w'.ownsRow base e size v' (n + m) (xs ++ news) ∧ w.grownBy w' v.ownBlock ∧
      (v'.ownBlock = v.ownBlock ∨ v'.ownBlock = some w.heap.size) := by
  obtain ⟨i, z, hi, hz, hs, hby, hzs⟩ := T.info
  have h1' : ∀ u ∈ news, u.oneCell' = true := by simpa using h1
  have hbytes : (n + m) * i.bytes ≤ 140737488355328 := by
    have : (n + m) * i.bytes ≤ 4294967296 * 32768 := Nat.mul_le_mul hb hby
    omega
  have h63 : n + m ≤ maxLen := by unfold maxLen; omega
  have ht := T.under
  rcases A with _ | ad
  · have hm : m = 0 := by
      rcases Nat.eq_zero_or_pos m with h0 | h0
      · exact h0
      · obtain ⟨b, o, h, _⟩ := hr.at_ h0
        cases h
    subst hm
    have hn : news = [] := List.eq_nil_of_length_eq_zero (by simpa using hr.1)
    subst hn
    refine ⟨v, w, ?_, by simpa using hown, ⟨rfl, rfl, rfl, Nat.le_refl _, fun _ _ _ => rfl⟩, .inl rfl⟩
    rcases hown.2 with ⟨rfl, rfl⟩ | ⟨g, cap, cur, rfl, _, _, hnc, _⟩
    · simp [Builtin.append_, run_underlying ht, sizeOf, typeInfo, hi, Builtin.lenOf, Builtin.firstCells]
    · simp [Builtin.append_, run_underlying ht, sizeOf, typeInfo, hi, Builtin.lenOf, Builtin.firstCells, hnc, storeCells]
  · have hcells : ∀ j u, news[j]? = some u → w.cell? (ad.add j) = some u := by
      intro j u hu
      rcases Nat.eq_zero_or_pos m with h0 | h0
      · subst h0
        have hn : news = [] := List.eq_nil_of_length_eq_zero (by simpa using hr.1)
        subst hn
        simp at hu
      · obtain ⟨b, o, h, hc⟩ := hr.at_ h0
        injection h with h
        subst h
        rw [Addr.add_lit]
        exact hc j u hu
    obtain ⟨v', w', hrun, h2, h3, _, h5⟩ := run_append_own_at (P := P) w base t ty e i z size i.bytes ht hi hz hs rfl hzs T.pos v n xs hown ad m c news hr.1 hcells h1' h63 hbytes hbase
    exact ⟨v', w', hrun, h2, h3, h5⟩

variable {ops : Array Oper} {rest : List Oper} {o : Oper} {a : Act} {Q : Exit → Act → World → Prop}

/-- 'v = append(v, x...)', v a row of the call's own; x read off any slice. -/
theorem wpList_app (hgd : o.guard = none) (s x : Operand) (ho : o.op = .call { callee := .builtin .append, args := #[s, x], argTypes := #[t, t] }) (T : AppT P t e size)
    {base : Nat} {v : Value} {n : Nat} {xs : List Value} (hs : a.eval s = v) (hown : w.ownsRow base e size v n xs)
    {A : Option Addr} {m c : Nat} {news : List Value} (hx : a.eval x = .slice A m c) (hr : Sl w size A m c news) (h1 : news.all (fun u => u.oneCell') = true) (hb : n + m ≤ 4294967296) (hbase : base ≤ w.heap.size)
    (h : ∀ v' w', w'.ownsRow base e size v' (n + m) (xs ++ news) → w.grownBy w' v.ownBlock → (v'.ownBlock = v.ownBlock ∨ v'.ownBlock = some w.heap.size) → wpList P ops Q rest (a.put o.dst v') w') : wpList P ops Q (o :: rest) a w := by
  refine wpList_plain hgd fun K hK => ?_
  obtain ⟨v', w', hrun, h2, h3, h4⟩ := run_app T o.type hown hr h1 hb hbase
  unfold Oper.wp execOp
  simp only [ho, resolve, invoke, builtin, Sem.run_bind, Sem.run_pure, Result.andThen_ok, List.map_toArray, List.map_cons, List.map_nil, hs, hx, hrun]
  exact hK _ _ (h v' w' h2 h3 h4)

/-- The same, where nothing that was there when the call began (W) is turned. -/
theorem wpList_appk (W : World) (hgd : o.guard = none) (s x : Operand) (ho : o.op = .call { callee := .builtin .append, args := #[s, x], argTypes := #[t, t] }) (T : AppT P t e size)
    {v : Value} {n : Nat} {xs : List Value} (hs : a.eval s = v) (hown : w.ownsRow W.heap.size e size v n xs) (hk : Kept W w)
    {A : Option Addr} {m c : Nat} {news : List Value} (hx : a.eval x = .slice A m c) (hr : Sl w size A m c news) (hc : news.all (fun u => u.oneCell') = true ∧ n + m ≤ 4294967296)
    (h : ∀ v' w', w'.ownsRow W.heap.size e size v' (n + m) (xs ++ news) → Kept W w' → w.grownBy w' v.ownBlock → (v'.ownBlock = v.ownBlock ∨ v'.ownBlock = some w.heap.size) → wpList P ops Q rest (a.put o.dst v') w') : wpList P ops Q (o :: rest) a w :=
  wpList_app hgd s x ho T hs hown hx hr hc.1 hc.2 hk.size fun v' w' h2 h3 h4 => h v' w' h2 (hk.grown h3 fun k hk' => (hown.lt k hk').1) h3 h4

/-- 'v = append(v, x)' of one element: it lies in a block just laid. -/
theorem wpList_push (W : World) (hgd : o.guard = none) (s x : Operand) (ho : o.op = .call { callee := .builtin .append, args := #[s, x], argTypes := #[t, t] }) (T : AppT P t e size)
    {v : Value} {n : Nat} {xs : List Value} (hs : a.eval s = v) (hown : w.ownsRow W.heap.size e size v n xs) (hk : Kept W w)
    {cs : List Value} {te : TypeId} {g : Nat} (hx : a.eval x = .slice (some ⟨g, 0, none⟩) 1 1) (hc : g = w.heap.size ∧ cs.length = size ∧ cs.all (fun u => u.oneCell') = true ∧ n + 1 ≤ 4294967296)
    (h : ∀ v' w', w'.ownsRow W.heap.size e size v' (n + 1) (xs ++ cs) → Kept W w' → (w.alloc (.cells cs.toArray te)).grownBy w' v.ownBlock → (v'.ownBlock = v.ownBlock ∨ v'.ownBlock = some (w.heap.size + 1)) → wpList P ops Q rest (a.put o.dst v') w') :
    wpList P ops Q (o :: rest) a (w.alloc (.cells cs.toArray te)) :=
  wpList_appk W hgd s x ho T hs (hown.alloc _) (hk.alloc _) (hc.1 ▸ hx) (Sl.lit (by omega) (by omega)) ⟨hc.2.2.1, hc.2.2.2⟩ fun v' w' h2 h3 h4 h5 => h v' w' h2 h3 h4 (by simpa using h5)
end

/-- A slice written out as a literal is the call's own. -/
theorem own_lit {w : World} {base : Nat} {e : TypeId} {size n : Nat} {cs : List Value} (hl : cs.length = n * size) (hm : n ≤ 9223372036854775807) (hb : base ≤ w.heap.size) :
    (w.alloc (.cells cs.toArray e)).ownsRow base e size (.slice (some ⟨w.heap.size, 0, none⟩) n n) n cs :=
  ⟨hl, .inr ⟨w.heap.size, n, cs.toArray, rfl, hb, heap_alloc_new w _, Nat.le_refl _, by simpa [maxLen] using hm, by simpa using hl, by rw [← hl]; simp⟩⟩

/-- As 'Sl.one', and its block is there. -/
theorem Sl.oneb {α : Type} {enc : α → Value} {w : World} {n c : Nat} {A : Option Addr} {l : List α} (h : Sl w 1 A n c (l.map enc)) {k : Nat} (hk : k < n) :
    ∃ b o x, A = some ⟨b, o, none⟩ ∧ l[k]? = some x ∧ w.cell? ⟨b, o + k, none⟩ = some (enc x) ∧ b < w.heap.size := by
  obtain ⟨b, o, x, hA, hx, hc⟩ := h.one hk
  exact ⟨b, o, x, hA, hx, hc, World.block_lt_of_cell? w _ hc⟩
theorem Sl.elemb {α : Type} {enc : α → List Value} {w : World} {s n c : Nat} {A : Option Addr} {l : List α} (hs : ∀ x, (enc x).length = s) (hp : 0 < s) (h : Sl w s A n c (l.flatMap enc)) {k : Nat} (hk : k < n) :
    ∃ b o x, A = some ⟨b, o, none⟩ ∧ l[k]? = some x ∧ (∀ j u, (enc x)[j]? = some u → w.cell? ⟨b, o + k * s + j, none⟩ = some u) ∧ b < w.heap.size := by
  obtain ⟨b, o, x, hA, hx, hc⟩ := h.elem hs hp hk
  have h0 : (enc x)[0]? = some ((enc x)[0]'(by rw [hs]; exact hp)) := List.getElem?_eq_getElem _
  exact ⟨b, o, x, hA, hx, hc, World.block_lt_of_cell? w _ (hc 0 _ h0)⟩

/-- What the call owns stays its own behind a callee that keeps all that was there. -/
theorem own_kept {w w' : World} {base : Nat} {e : TypeId} {size n : Nat} {v : Value} {xs : List Value} (h : w.ownsRow base e size v n xs) (hk : Kept w w') : w'.ownsRow base e size v n xs := by
  refine ⟨h.1, ?_⟩
  rcases h.2 with hn | ⟨g, cap, cur, rfl, hb, hgg, rest⟩
  · exact .inl hn
  · refine .inr ⟨g, cap, cur, rfl, hb, ?_, rest⟩
    rw [Below.block hk g (Array.getElem?_eq_some_iff.1 hgg).1]
    exact hgg

/-- The cell of an element that is there. -/
theorem Sl.at1 {α : Type} {enc : α → Value} {w : World} {n c b o : Nat} {l : List α} (h : Sl w 1 (some ⟨b, o, none⟩) n c (l.map enc)) {k : Nat} {x : α} (hx : l[k]? = some x) : w.cell? ⟨b, o + k, none⟩ = some (enc x) := by
  have hl : l.length = n := by simpa using h.len
  have hk := (List.getElem?_eq_some_iff.1 hx).1
  obtain ⟨b', o', x', hA, hx', hc⟩ := h.one (k := k) (by omega)
  injection hA with hA
  injection hA with hb ho
  subst hb ho
  rw [hx] at hx'
  injection hx' with hx'
  subst hx'
  exact hc
theorem Sl.llen1 {α : Type} {enc : α → Value} {w : World} {n c : Nat} {A : Option Addr} {l : List α} (h : Sl w 1 A n c (l.map enc)) : l.length = n := by simpa using h.len

/-- What the walk wants to know behind a call that kept all. -/
theorem Kept.old {W w' : World} (h : Kept W w') : (∀ b o, b < W.heap.size → w'.cell? ⟨b, o, none⟩ = W.cell? ⟨b, o, none⟩) ∧ (∀ b o, b < W.heap.size → w'.frozen? ⟨b, o, none⟩ = W.frozen? ⟨b, o, none⟩) ∧ W.heap.size ≤ w'.heap.size :=
  ⟨fun b o hb => Below.cell (p := ⟨b, o, none⟩) h hb, fun b o hb => Below.frozen (p := ⟨b, o, none⟩) h hb, h.size⟩

/-- The address of a cut. -/
def cutA (A : Option Addr) (c l s : Nat) : Option Addr := if c = l then A else A.map (·.add (l * s))

section
variable {w : World} {s n c : Nat} {A : Option Addr} {xs : List Value}
theorem Sl.cut (h : Sl w s A n c xs) {l m : Nat} (hl : l ≤ m) (hm : m ≤ n) : Sl w s (cutA A c l s) (m - l) (c - l) ((xs.drop (l * s)).take ((m - l) * s)) := by
  have h1 := h.len
  have h2 := h.cap
  refine ⟨?_, by omega, ?_, fun hpos => ?_⟩
  · rw [List.length_take, List.length_drop, h1, ← Nat.sub_mul]
    exact Nat.min_eq_left (Nat.mul_le_mul_right _ (by omega))
  · have := h.2.2.1
    omega
  · obtain ⟨b, o, rfl, hc⟩ := h.at_ (by omega)
    refine ⟨b, o + l * s, ?_, fun j u hu => ?_⟩
    · unfold cutA
      rw [if_neg (by omega)]
      simp [Addr.add_lit]
    · rw [Nat.add_assoc]
      refine hc _ u ?_
      rw [List.getElem?_take] at hu
      split at hu
      · rw [List.getElem?_drop] at hu
        exact hu
      · cases hu
theorem Sl.cut1 {α : Type} {enc : α → Value} {l : List α} (h : Sl w 1 A n c (l.map enc)) {i m : Nat} (hl : i ≤ m) (hm : m ≤ n) : Sl w 1 (cutA A c i 1) (m - i) (c - i) (((l.drop i).take (m - i)).map enc) := by
  have := h.cut hl hm
  simpa [List.map_drop, List.map_take] using this
theorem Sl.to (h : Sl w s A n c xs) {m : Nat} (hm : m ≤ n) : Sl w s A m c (xs.take (m * s)) := by
  have h1 := h.len
  have h2 := h.cap
  refine ⟨?_, by omega, h.2.2.1, fun hpos => ?_⟩
  · rw [List.length_take, h1]
    exact Nat.min_eq_left (Nat.mul_le_mul_right _ hm)
  · obtain ⟨b, o, rfl, hc⟩ := h.at_ (by omega)
    refine ⟨b, o, rfl, fun j u hu => hc j u ?_⟩
    rw [List.getElem?_take] at hu
    split at hu
    · exact hu
    · cases hu
theorem Sl.to1 {α : Type} {enc : α → Value} {l : List α} (h : Sl w 1 A n c (l.map enc)) {m : Nat} (hm : m ≤ n) : Sl w 1 A m c ((l.take m).map enc) := by
  have := h.to hm
  simpa [List.map_take] using this
theorem Sl.from1 {α : Type} {enc : α → Value} {l : List α} (h : Sl w 1 A n c (l.map enc)) {i : Nat} (hi : i ≤ n) : Sl w 1 (cutA A c i 1) (n - i) (c - i) ((l.drop i).map enc) := by
  have := h.cut1 hi (Nat.le_refl _)
  rwa [List.take_of_length_le (by rw [List.length_drop, h.llen1]; omega)] at this
theorem Sl.drew (h : Sl w s A n c xs) : Sl w.drew s A n c xs := h
theorem Sl.litg {t : TypeId} {g : Nat} (hg : g = w.heap.size) (hl : xs.length = n * s) (hm : n ≤ 9223372036854775807) : Sl (w.alloc (.cells xs.toArray t)) s (some ⟨g, 0, none⟩) n n xs := hg ▸ Sl.lit hl hm
theorem ints_one (k : IntKind) (l : List Int) : (l.map (Value.int k)).all (fun u => u.oneCell') = true := by simp [Value.oneCell']
theorem flat_drop {α : Type} {enc : α → List Value} {s : Nat} (hs : ∀ x, (enc x).length = s) : ∀ (l : List α) (k : Nat), (l.flatMap enc).drop (k * s) = (l.drop k).flatMap enc
  | [], k => by simp
  | x :: l, 0 => by simp
  | x :: l, k + 1 => by
    rw [List.flatMap_cons, List.drop_succ_cons, ← flat_drop hs l k, Nat.add_mul, Nat.one_mul, List.drop_append, hs, show k * s + s - s = k * s by omega, List.drop_eq_nil_of_le (by rw [hs]; omega), List.nil_append]
theorem flat_take {α : Type} {enc : α → List Value} {s : Nat} (hs : ∀ x, (enc x).length = s) : ∀ (l : List α) (k : Nat), (l.flatMap enc).take (k * s) = (l.take k).flatMap enc
  | [], k => by simp
  | x :: l, 0 => by simp
  | x :: l, k + 1 => by
    rw [List.flatMap_cons, List.take_succ_cons, List.flatMap_cons, ← flat_take hs l k, Nat.add_mul, Nat.one_mul, List.take_append, hs, show k * s + s - s = k * s by omega, List.take_of_length_le (by rw [hs]; omega)]
theorem Sl.cutf {α : Type} {enc : α → List Value} {l : List α} (hs : ∀ x, (enc x).length = s) (h : Sl w s A n c (l.flatMap enc)) {i m : Nat} (hl : i ≤ m) (hm : m ≤ n) : Sl w s (cutA A c i s) (m - i) (c - i) (((l.drop i).take (m - i)).flatMap enc) := by
  have := h.cut hl hm
  rwa [flat_drop hs, flat_take hs] at this
end

section
variable {P : Program} {t e : TypeId} {size : Nat}
theorem run_cut_lh (T : AppT P t e size) (A : Option Addr) (n c l m : Nat) (hl : l ≤ m) (hm : m ≤ c) (w : World) :
    (Instr.slice t (.slice A n c) (some (.int .i64 (l : Int))) (some (.int .i64 (m : Int))) none).run P w = .ok (.slice (cutA A c l size) (m - l) (c - l)) w := by
  have ht : P.underlying t = some (.slice (P.elem t)) := by rw [T.elem_]; exact T.under
  rw [run_slice_lh w t A n c ht _ _ _ _ (by omega) (by omega) (by omega), T.elem_, T.run_size]
  simp [Result.andThen, sliced, cutA]
theorem run_cut_l (T : AppT P t e size) (A : Option Addr) (n c l : Nat) (hl : l ≤ n) (w : World) :
    (Instr.slice t (.slice A n c) (some (.int .i64 (l : Int))) none none).run P w = .ok (.slice (cutA A c l size) (n - l) (c - l)) w := by
  have ht : P.underlying t = some (.slice (P.elem t)) := by rw [T.elem_]; exact T.under
  rw [run_slice_l w t A n c ht _ _ (by omega) (by omega), T.elem_, T.run_size]
  simp [Result.andThen, sliced, cutA]
/-- A row that is there, nothing of it taken yet. -/
theorem own_row {w : World} {base : Nat} {e : TypeId} {size cap : Nat} {cur : Array Value} (hb : base ≤ w.heap.size) (hm : cap ≤ maxLen) (hs : cur.size = cap * size) :
    (w.alloc (.cells cur e)).ownsRow base e size (.slice (some ⟨w.heap.size, 0, none⟩) 0 cap) 0 [] := World.ownsRow_made w cur cap hb hm hs
/-- 'append(nil, make([]T, n)...)'. -/
theorem run_zeros (T : AppT P t e size) {tn ty : TypeId} (htn : P.underlying tn = some (.int .i64)) (w : World) (n : Nat) (h0 : 0 < n) (hn : n ≤ 4294967296) :
    ∃ cap cur, n ≤ cap ∧ cap ≤ maxLen ∧ cur.size = cap * size ∧ (Builtin.append_ #[t, tn] ty #[.slice none 0 0, .int .i64 n]).run P w = .ok (.slice (some ⟨w.heap.size, 0, none⟩) n cap) (w.drew.alloc (.cells cur e)) := by
  obtain ⟨i, z, hi, hz, hs, hby, hzs⟩ := T.info
  have hp := T.pos
  have hb : n * i.bytes ≤ 4294967296 * 32768 := Nat.mul_le_mul hn hby
  refine ⟨grownCap w n 0 e, _, grownCap_ge _ _ _ _, grownCap_le_maxLen _ _ _ _ (by unfold maxLen; omega), ?_, Lib.run_append_nil_zeros (P := P) w t tn ty e i z .i64 .i64 T.under htn hi hz n h0 (by omega) (by omega) (by omega)⟩
  have hge := grownCap_ge w n 0 e
  rw [Array.size_append, size_zeroCells, size_zeroCells, hzs, ← Nat.add_mul]
  congr 1
  omega
theorem addr_add_zero (a : Addr) : a.add 0 = a := by simp [Addr.add]
theorem run_cut_h (T : AppT P t e size) (A : Option Addr) (n c m : Nat) (hm : m ≤ c) (w : World) :
    (Instr.slice t (.slice A n c) none (some (.int .i64 (m : Int))) none).run P w = .ok (.slice A m c) w := by
  have ht : P.underlying t = some (.slice (P.elem t)) := by rw [T.elem_]; exact T.under
  rw [run_slice_h w t A n c ht _ _ (by omega) (by omega), T.elem_, T.run_size]
  cases A <;> simp [Result.andThen, sliced, addr_add_zero]
end

end Go.Proofs.YtmcmicgdkdbgjaaDoor
