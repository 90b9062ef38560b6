/- Structs and slices among the arguments, opened (texts LawO, Open); a list of steps. One text, for a claim holds sixty files. -/
import Derived.Test.YtmcmicgdkdbgjaaDoorLaw
import Derived.Lib.SmallJoins
import Derived.Deep.Slices
import Derived.Test.YtmcmicgdkdbgjaaDoorScpL
namespace Go.Proofs.YtmcmicgdkdbgjaaDoor
open Go.ChangeShapes Go.WideShapes Go.ChangeAt Go.RowKit Go.Joins Go.Deep

theorem i64_bd {z : Int} (h : (Lit.int .i64 z).wf = true) : -9223372036854775808 ≤ z ∧ z ≤ 9223372036854775807 := by
  simp [Lit.wf, IntKind.min, IntKind.max, IntKind.signed, IntKind.bits] at h
  omega
theorem i32_bd {z : Int} (h : (Lit.int .i32 z).wf = true) : -2147483648 ≤ z ∧ z ≤ 2147483647 := by
  simp [Lit.wf, IntKind.min, IntKind.max, IntKind.signed, IntKind.bits] at h
  omega
theorem u8_bd {z : Int} (h : (Lit.int .u8 z).wf = true) : 0 ≤ z ∧ z ≤ 255 := by
  simp [Lit.wf, IntKind.min, IntKind.max, IntKind.signed, IntKind.bits] at h
  omega
section
variable {H : Type} {enc : TypeId × Value → H} {P : Program} {w : World} {base : Nat} {spare : Nat → Bool} {held : Bool}
/-- A struct of two ints by value. -/
theorem open_pair {r : Reach} {b0 : Nat} {t : TypeId} {f0 f1 : Field} {v : Value} {d : DataW H} {p : List MemPlace} (hs : P.underlying t = some (.struct #[f0, f1])) (hone : oneCellFields P #[f0, f1] = true) (hC : P.cellsOf t = 2)
    (h0 : P.underlying f0.type = some (.int .i64)) (h1 : P.underlying f1.type = some (.int .i64))
    (hv : Value.okWide P w r b0 t v) (h : DataW.Trod enc P w base spare held t v d p) :
    ∃ a b : Int, v = .agg #[.int .i64 a, .int .i64 b] ∧ (-9223372036854775808 ≤ a ∧ a ≤ 9223372036854775807) ∧ (-9223372036854775808 ≤ b ∧ b ≤ 9223372036854775807) := by
  obtain ⟨v0, v1, y0, y1, n, rfl, _, _, g0, g1⟩ := open_agg2 hs hone hC hv h
  obtain ⟨a, e0, _, w0⟩ := DataW.trod_int h0 g0
  obtain ⟨b, e1, _, w1⟩ := DataW.trod_int h1 g1
  simp at e0 e1
  subst e0 e1
  exact ⟨a, b, rfl, i64_bd w0, i64_bd w1⟩
end

theorem exists_map {α β : Type} {f : α → β} {p : α → Prop} : ∀ {rows : List β}, (∀ r ∈ rows, ∃ x, f x = r ∧ p x) → ∃ L : List α, L.map f = rows ∧ ∀ x ∈ L, p x
  | [], _ => ⟨[], rfl, by simp⟩
  | r :: rows, h => by
    obtain ⟨x, rfl, hx⟩ := h r (by simp)
    obtain ⟨L, rfl, hL⟩ := exists_map (rows := rows) (fun r hr => h r (by simp [hr]))
    exact ⟨x :: L, rfl, by simp; exact ⟨hx, hL⟩⟩
theorem flatten_len {α : Type} {s : Nat} : ∀ {rows : List (List α)}, (∀ r ∈ rows, r.length = s) → rows.flatten.length = rows.length * s
  | [], _ => by simp
  | r :: rows, h => by
    rw [List.flatten_cons, List.length_append, h r (by simp), flatten_len (fun r hr => h r (by simp [hr])), List.length_cons, Nat.add_mul]
    omega
theorem flatten_get {α : Type} {s : Nat} : ∀ {rows : List (List α)}, (∀ r ∈ rows, r.length = s) → ∀ (j : Nat) (u : α), rows.flatten[j]? = some u → ∃ (i k : Nat) (r : List α), k < s ∧ j = i * s + k ∧ rows[i]? = some r ∧ r[k]? = some u
  | [], _, j, u, h => by simp at h
  | r :: rows, hr, j, u, h => by
    rw [List.flatten_cons] at h
    have hl := hr r (by simp)
    by_cases hj : j < s
    · rw [List.getElem?_append_left (by omega)] at h
      exact ⟨0, j, r, hj, by omega, rfl, h⟩
    · rw [List.getElem?_append_right (by omega), hl] at h
      obtain ⟨i, k, r', hk, he, hi, hu⟩ := flatten_get (fun r hr' => hr r (by simp [hr'])) _ u h
      exact ⟨i + 1, k, r', hk, by rw [Nat.add_mul]; omega, by simpa using hi, hu⟩
section
variable {H : Type} {enc : TypeId × Value → H} {P : Program} {w : World} {base : Nat} {spare : Nat → Bool} {held : Bool}
theorem open_rows {t e : TypeId} {fuel s : Nat} {cs : List Value} {x : DataW H × List MemPlace} (ht : P.underlying t = some (.slice e)) (hc : P.cellsOf e = s) (hp : 0 < s) (h : DataW.trod enc P w base spare held fuel t cs = some x) :
    ∃ (A : Option Addr) (n c : Nat) (rows : List (List Value)), cs = [.slice A n c] ∧ rows.length = n ∧ Sl w s A n c rows.flatten ∧ ∀ r ∈ rows, r.length = s ∧ ∃ k y, k < fuel ∧ DataW.trod enc P w base spare held k e r = some y := by
  subst hc
  rcases DataW.trod_slice ht h with ⟨rfl, _⟩ | ⟨a, len, cap, elems, rest, n, rfl, rfl, _, _, hl, hm, hlen, hel, _, _⟩
  · exact ⟨none, 0, 0, [], rfl, rfl, Sl.nil_, by simp⟩
  · have each : ∀ i, i < len → ∃ r : List Value, w.cells? base (a.add (i * P.cellsOf e)) (P.cellsOf e) = some r ∧ ∃ y, DataW.trod enc P w base spare held n e r = some y := by
      intro i hi
      have h1 := hel i hi
      rw [List.getElem?_eq_getElem (by omega)] at h1
      obtain ⟨r, h2, h3⟩ := Option.bind_eq_some_iff.1 h1
      exact ⟨r, h2, _, h3⟩
    obtain ⟨f, hf⟩ := choose_lt each
    have hrow : ∀ r ∈ (List.range len).map f, r.length = P.cellsOf e ∧ ∃ k y, k < n + 1 ∧ DataW.trod enc P w base spare held k e r = some y := by
      intro r hr
      obtain ⟨i, hi, rfl⟩ := List.mem_map.1 hr
      obtain ⟨h2, y, h3⟩ := hf i (List.mem_range.1 hi)
      exact ⟨(World.cells?_some h2).2.1, n, y, by omega, h3⟩
    refine ⟨_, len, cap, (List.range len).map f, rfl, by simp, ⟨?_, hl, hm, fun hpos => ?_⟩, hrow⟩
    · rw [flatten_len (fun r hr => (hrow r hr).1)]
      simp
    · obtain ⟨h2, _⟩ := hf 0 hpos
      obtain ⟨_, hlr, hcell⟩ := World.cells?_some h2
      have h0 := hcell 0 hp
      rw [Nat.zero_mul, Go.Deep.add_add, List.getElem?_eq_getElem (by omega)] at h0
      have hsp := cell_spot h0
      have ha : a = ⟨a.block, a.off, none⟩ := by simpa [Addr.add] using hsp
      refine ⟨a.block, a.off, congrArg some ha, fun j u hu => ?_⟩
      obtain ⟨i, k, r, hk, rfl, hi, hu⟩ := flatten_get (fun r hr => (hrow r hr).1) j u hu
      have hil : i < len := by
        have := (List.getElem?_eq_some_iff.1 hi).1
        rwa [List.length_map, List.length_range] at this
      rw [List.getElem?_map, List.getElem?_range hil] at hi
      have hi2 : some (f i) = some r := hi
      injection hi2 with hi2
      subst hi2
      obtain ⟨h2, _⟩ := hf i hil
      obtain ⟨_, _, hcell⟩ := World.cells?_some h2
      have := hcell k hk
      rw [Go.Deep.add_add, hu] at this
      rw [← this]
      congr 1
      conv => rhs; rw [ha, Addr.add_lit]
theorem open_ints_cell {t e : TypeId} {k : IntKind} {fuel : Nat} {cs : List Value} {x : DataW H × List MemPlace} (ht : P.underlying t = some (.slice e)) (he : P.underlying e = some (.int k)) (hc : P.cellsOf e = 1)
    (h : DataW.trod enc P w base spare held fuel t cs = some x) : ∃ (A : Option Addr) (n c : Nat) (zs : List Int), cs = [.slice A n c] ∧ Sl w 1 A n c (zs.map (Value.int k)) ∧ ∀ z ∈ zs, (Lit.int k z).wf = true := by
  obtain ⟨A, n, c, rows, rfl, hl, hs, hr⟩ := open_rows ht hc (by omega) h
  obtain ⟨zs, hz, hwf⟩ := exists_map (f := fun z => [Value.int k z]) (p := fun z => (Lit.int k z).wf = true) (rows := rows) (fun r hr' => by
    obtain ⟨_, _, y, _, hy⟩ := hr r hr'
    obtain ⟨z, rfl, _, hwf⟩ := DataW.trod_int he hy
    exact ⟨z, rfl, hwf⟩)
  refine ⟨A, n, c, zs, rfl, ?_, hwf⟩
  rw [← hz] at hs
  have e : (zs.map (fun z => [Value.int k z])).flatten = zs.map (Value.int k) := by
    clear hz hs hwf
    induction zs with
    | nil => rfl
    | cons z zs ih => rw [List.map_cons, List.flatten_cons, ih]; rfl
  rwa [e] at hs
/-- The same of an argument. -/
theorem open_rows_arg {t e : TypeId} {s : Nat} {v : Value} {d : DataW H} {ps : List MemPlace} (ht : P.underlying t = some (.slice e)) (hc : P.cellsOf e = s) (hp : 0 < s) (h : DataW.Trod enc P w base spare held t v d ps) {r : Reach} {b0 : Nat} (hval : Value.okWide P w r b0 t v) :
    ∃ (A : Option Addr) (n c : Nat) (rows : List (List Value)), v = .slice A n c ∧ rows.length = n ∧ Sl w s A n c rows.flatten ∧ ∀ r ∈ rows, r.length = s ∧ ∃ k y, DataW.trod enc P w base spare held k e r = some y := by
  obtain ⟨a0, len, cap, rfl⟩ := okWide_slice ht hval
  obtain ⟨fuel, hf⟩ := h
  obtain ⟨A, n, c, rows, hcs, hl, hs, hr⟩ := open_rows ht hc hp hf
  simp [Value.cells] at hcs
  obtain ⟨rfl, rfl, rfl⟩ := hcs
  exact ⟨_, _, _, rows, rfl, hl, hs, fun r hr' => by obtain ⟨h1, k, y, _, h2⟩ := hr r hr'; exact ⟨h1, k, y, h2⟩⟩
end

section
variable {H : Type} {enc : TypeId × Value → H} {w : World} {base : Nat} {spare : Nat → Bool} {held : Bool}
set_option maxRecDepth 100000 in
theorem open_op {fuel : Nat} {r : List Value} {y : DataW H × List MemPlace} (h : DataW.trod enc Tryd.prog w base spare held fuel 38 r = some y) (hl : r.length = 6) : ∃ x : Oi, x.cl = r ∧ x.ok w := by
  obtain ⟨xs, n, _, _, _, hlen, hf⟩ := DataW.trod_struct Tryd.underlying38 h
  match r, hl with
  | [v0, v1, v2, v3, v4, v5], _ =>
    have g0 := hf 0 _ rfl
    have g1 := hf 1 _ rfl
    have g2 := hf 2 _ rfl
    have g3 := hf 3 _ rfl
    have g4 := hf 4 _ rfl
    have g5 := hf 5 _ rfl
    have k1 : Tryd.prog.cellsOf 9 = 1 := by kernel_rfl
    have k2 : Tryd.prog.cellsOf 3 = 1 := by kernel_rfl
    have k3 : Tryd.prog.cellsOf 35 = 1 := by kernel_rfl
    have hlen' : xs.length = 6 := by simpa using hlen
    match xs, hlen' with
    | [y0, y1, y2, y3, y4, y5], _ =>
      simp only [List.getElem?_cons_zero, List.getElem?_cons_succ] at g0 g1 g2 g3 g4 g5
      obtain ⟨z0, e0, _⟩ := DataW.trod_int Tryd.underlying3 g0
      obtain ⟨A, n1, c, p, e1, hA, _⟩ := open_ints_cell Tryd.underlying35 Tryd.underlying3 k2 g1
      obtain ⟨B, n2, d, q, e2, hB, _⟩ := open_ints_cell Tryd.underlying35 Tryd.underlying3 k2 g2
      obtain ⟨z3, e3, _⟩ := DataW.trod_int Tryd.underlying3 g3
      obtain ⟨a, e4, _⟩ := DataW.trod_string Tryd.underlying9 g4
      obtain ⟨t, e5, _⟩ := DataW.trod_string Tryd.underlying9 g5
      injection e0 with e0
      injection e1 with e1
      injection e2 with e2
      injection e3 with e3
      injection e4 with e4
      injection e5 with e5
      subst e0 e1 e2 e3 e4 e5
      exact ⟨⟨z0, A, n1, c, p, B, n2, d, q, z3, a, t⟩, rfl, hA, hB⟩
set_option maxRecDepth 100000 in
theorem open_ops_arg {r : Reach} {b0 : Nat} {v : Value} {d : DataW H} {ps : List MemPlace} (hval : Value.okWide Tryd.prog w r b0 31 v) (hd : DataW.Trod enc Tryd.prog w base spare held 31 v d ps) :
    ∃ (A : Option Addr) (n c : Nat) (L : List Oi), v = .slice A n c ∧ Sl w 6 A n c (L.flatMap Oi.cl) ∧ ∀ x ∈ L, x.ok w := by
  obtain ⟨A, n, c, rows, rfl, _, hs, hr⟩ := open_rows_arg (s := 6) Tryd.underlying31 (by kernel_rfl) (by omega) hd hval
  obtain ⟨L, hL, hok⟩ := exists_map (f := Oi.cl) (p := fun x => x.ok w) (rows := rows) (fun r hr' => by
    obtain ⟨h1, k, y, hy⟩ := hr r hr'
    exact open_op hy h1)
  have hs2 : Sl w 6 A n c (L.flatMap Oi.cl) := by
    have : rows.flatten = L.flatMap Oi.cl := by rw [← hL]; rfl
    rwa [this] at hs
  exact ⟨A, n, c, L, rfl, hs2, hok⟩
end
end Go.Proofs.YtmcmicgdkdbgjaaDoor
