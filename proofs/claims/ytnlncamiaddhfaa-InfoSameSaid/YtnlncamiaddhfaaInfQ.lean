/- Nodes among the arguments, opened, with the bound of their texts. -/
import Derived.Test.YtnlncamiaddhfaaOpen
import Derived.Test.YtnlncamiaddhfaaInfW
namespace Go.Proofs.Ytnlncamiaddhfaa
open Go.ChangeShapes Go.WideShapes Go.ChangeAt Go.RowKit Go.Joins Go.Deep

theorem list7 {α : Type} : ∀ {l : List α}, l.length = 7 → ∃ a b c d e f g, l = [a, b, c, d, e, f, g]
  | [a, b, c, d, e, f, g], _ => ⟨a, b, c, d, e, f, g, rfl⟩
theorem list9 {α : Type} : ∀ {l : List α}, l.length = 9 → ∃ a b c d e f g h i, l = [a, b, c, d, e, f, g, h, i]
  | [a, b, c, d, e, f, g, h, i], _ => ⟨a, b, c, d, e, f, g, h, i, rfl⟩
theorem exists_map2 {α β : Type} {f : α → β} {p : α → Prop} : ∀ {rows : List β}, (∀ r ∈ rows, ∃ x, f x = r ∧ p x) → ∃ L : List α, L.map f = rows ∧ ∀ x ∈ L, p x := exists_map
section
variable {H : Type} {enc : TypeId × Value → H} {P : Program} {w : World} {base : Nat} {spare : Nat → Bool} {held : Bool}
theorem weightsAll_mem {e : TypeId} {m : Nat} : ∀ {ds : List (DataW H)} {d : DataW H}, d ∈ ds → m ∈ d.weights P e → m ∈ DataW.weightsAll P e ds
  | a :: ds, d, hd, hm => by
    rw [DataW.weightsAll, List.mem_append]
    rcases List.mem_cons.1 hd with rfl | hd
    · exact .inl hm
    · exact .inr (weightsAll_mem hd hm)
/-- As 'open_rows'; what is weighed in a row is weighed in the whole. -/
theorem open_rows_w {t e : TypeId} {fuel s : Nat} {cs : List Value} {x : DataW H × List MemPlace} (ht : P.underlying t = some (.slice e)) (hc : P.cellsOf e = s) (hp : 0 < s) (h : DataW.trod enc P w base spare held fuel t cs = some x) :
    ∃ (A : Option Addr) (n c : Nat) (rows : List (List Value)), cs = [.slice A n c] ∧ rows.length = n ∧ Sl w s A n c rows.flatten ∧ ∀ r ∈ rows, r.length = s ∧ ∃ k y, k < fuel ∧ DataW.trod enc P w base spare held k e r = some y ∧ ∀ m ∈ y.1.weights P e, m ∈ x.1.weights P t := by
  have h0 := h
  subst hc
  rcases DataW.trod_slice ht h with ⟨rfl, _⟩ | ⟨a, len, cap, elems, rest, n, rfl, rfl, hx, _, hl, hm, hlen, hel, _, _⟩
  · exact ⟨none, 0, 0, [], rfl, rfl, Sl.nil_, by simp⟩
  · have each : ∀ i, i < len → ∃ r : List Value, w.cells? base (a.add (i * P.cellsOf e)) (P.cellsOf e) = some r ∧ ∃ y, DataW.trod enc P w base spare held n e r = some y ∧ y ∈ elems := by
      intro i hi
      have h1 := hel i hi
      rw [List.getElem?_eq_getElem (by omega)] at h1
      obtain ⟨r, h2, h3⟩ := Option.bind_eq_some_iff.1 h1
      exact ⟨r, h2, _, h3, List.getElem_mem _⟩
    obtain ⟨f, hf⟩ := choose_lt each
    have hrow : ∀ r ∈ (List.range len).map f, r.length = P.cellsOf e ∧ ∃ k y, k < n + 1 ∧ DataW.trod enc P w base spare held k e r = some y ∧ ∀ m ∈ y.1.weights P e, m ∈ x.1.weights P t := by
      intro r hr
      obtain ⟨i, hi, rfl⟩ := List.mem_map.1 hr
      obtain ⟨h2, y, h3, hy⟩ := hf i (List.mem_range.1 hi)
      refine ⟨(World.cells?_some h2).2.1, n, y, by omega, h3, fun m hm' => ?_⟩
      rw [hx]
      simp only [DataW.weights, ht]
      exact List.mem_cons_of_mem _ (List.mem_append.2 (.inl (weightsAll_mem (List.mem_map.2 ⟨y, hy, rfl⟩) hm')))
    refine ⟨_, len, cap, (List.range len).map f, rfl, by simp, ⟨?_, hl, hm, fun hpos => ?_⟩, hrow⟩
    · rw [flatten_len (fun r hr => (hrow r hr).1)]
      simp
    · obtain ⟨h2, _⟩ := hf 0 hpos
      obtain ⟨_, hlr, hcell⟩ := World.cells?_some h2
      have h0 := hcell 0 hp
      rw [Nat.zero_mul, Go.Deep.add_add, List.getElem?_eq_getElem (by omega)] at h0
      have hsp := cell_spot h0
      have ha : a = ⟨a.block, a.off, none⟩ := by simpa [Addr.add] using hsp
      refine ⟨a.block, a.off, congrArg some ha, fun j u hu => ?_⟩
      obtain ⟨i, k, r, hk, rfl, hi, hu⟩ := flatten_get (fun r hr => (hrow r hr).1) j u hu
      have hil : i < len := by
        have := (List.getElem?_eq_some_iff.1 hi).1
        rwa [List.length_map, List.length_range] at this
      rw [List.getElem?_map, List.getElem?_range hil] at hi
      have hi2 : some (f i) = some r := hi
      injection hi2 with hi2
      subst hi2
      obtain ⟨h2, _⟩ := hf i hil
      obtain ⟨_, _, hcell⟩ := World.cells?_some h2
      have := hcell k hk
      rw [Go.Deep.add_add, hu] at this
      rw [← this]
      congr 1
      conv => rhs; rw [ha, Addr.add_lit]
end
section
variable {H : Type} {enc : TypeId × Value → H} {w : World} {base : Nat} {spare : Nat → Bool} {held : Bool}
set_option maxRecDepth 100000 in
theorem open_rbd {fuel : Nat} {r : List Value} {y : DataW H × List MemPlace} (h : DataW.trod enc Try.prog w base spare held fuel 60 r = some y) (hl : r.length = 2) : ∃ x : Bd, x.cells = r ∧ True := by
  obtain ⟨xs, n, _, _, _, hlen, hf⟩ := DataW.trod_struct Try.underlying60 h
  match r, hl with
  | [v0, v1], _ =>
    have g0 := hf 0 _ rfl
    have g1 := hf 1 _ rfl
    have k1 : Try.prog.cellsOf 9 = 1 := by kernel_rfl
    have hlen' : xs.length = 2 := by simpa using hlen
    match xs, hlen' with
    | [y0, y1], _ =>
      simp only [List.getElem?_cons_zero, List.getElem?_cons_succ] at g0 g1
      obtain ⟨a, e0, _⟩ := DataW.trod_string Try.underlying9 g0
      obtain ⟨b, e1, _⟩ := DataW.trod_string Try.underlying9 g1
      injection e0 with e0
      injection e1 with e1
      subst e0 e1
      exact ⟨⟨a, b⟩, rfl, trivial⟩
set_option maxRecDepth 100000 in
theorem open_name {fuel : Nat} {v0 v1 v2 : Value} {y : DataW H × List MemPlace} (h : DataW.trod enc Try.prog w base spare held fuel 23 [v0, v1, v2] = some y) : ∃ x : Nm, v0 = .string x.u ∧ v1 = .string x.l ∧ v2 = .string x.p := by
  obtain ⟨xs, n, _, _, _, hlen, hf⟩ := DataW.trod_struct Try.underlying23 h
  have g0 := hf 0 _ rfl
  have g1 := hf 1 _ rfl
  have g2 := hf 2 _ rfl
  have k1 : Try.prog.cellsOf 9 = 1 := by kernel_rfl
  have hlen' : xs.length = 3 := by simpa using hlen
  match xs, hlen' with
  | [y0, y1, y2], _ =>
    simp only [List.getElem?_cons_zero, List.getElem?_cons_succ] at g0 g1 g2
    obtain ⟨a, e0, _⟩ := DataW.trod_string Try.underlying9 g0
    obtain ⟨b, e1, _⟩ := DataW.trod_string Try.underlying9 g1
    obtain ⟨c, e2, _⟩ := DataW.trod_string Try.underlying9 g2
    injection e0 with e0
    injection e1 with e1
    injection e2 with e2
    exact ⟨⟨a, b, c⟩, e0, e1, e2⟩
set_option maxRecDepth 100000 in
theorem open_att {fuel : Nat} {r : List Value} {y : DataW H × List MemPlace} (h : DataW.trod enc Try.prog w base spare held fuel 63 r = some y) (hl : r.length = 5) : ∃ x : Att, x.cells = r ∧ True := by
  obtain ⟨xs, n, _, _, _, hlen, hf⟩ := DataW.trod_struct Try.underlying63 h
  match r, hl with
  | [v0, v1, v2, v3, v4], _ =>
    have g0 := hf 0 _ rfl
    have g1 := hf 1 _ rfl
    have g2 := hf 2 _ rfl
    have k1 : Try.prog.cellsOf 9 = 1 := by kernel_rfl
    have k3 : Try.prog.cellsOf 23 = 3 := by kernel_rfl
    have kb : Try.prog.cellsOf 4 = 1 := by kernel_rfl
    have hlen' : xs.length = 3 := by simpa using hlen
    match xs, hlen' with
    | [y0, y1, y2], _ =>
      simp only [List.getElem?_cons_zero, List.getElem?_cons_succ] at g0 g1 g2
      obtain ⟨a, e0, e1, e2⟩ := open_name g0
      obtain ⟨b, e3, _⟩ := DataW.trod_string Try.underlying9 g1
      obtain ⟨c, e4, _⟩ := DataW.trod_bool Try.underlying4 g2
      injection e3 with e3
      injection e4 with e4
      subst e0 e1 e2 e3 e4
      exact ⟨⟨a, b, c⟩, rfl, trivial⟩
theorem flat_of {α : Type} {f : α → List Value} {L : List α} {rows : List (List Value)} (h : L.map f = rows) : rows.flatten = L.flatMap f := by
  rw [← h]
  rfl
set_option maxRecDepth 100000 in
set_option maxHeartbeats 2000000 in
theorem open_nd {b : Nat} : ∀ (fuel : Nat) (cs : List Value) (y : DataW H × List MemPlace), DataW.trod enc Try.prog w base spare held fuel 28 cs = some y → cs.length = 9 →
    ∃ x : Nd, x.cells = cs ∧ x.ok w ∧ ((∀ m ∈ y.1.weights Try.prog 28, m ≤ b) → Txts b x.tr) := by
  intro fuel
  induction fuel using Nat.strongRecOn with
  | ind fuel ih =>
  intro cs y h hl
  obtain ⟨xs, n, rfl, hy, _, hlen, hf⟩ := DataW.trod_struct Try.underlying28 h
  obtain ⟨v0, v1, v2, v3, v4, v5, v6, v7, v8, rfl⟩ := list9 hl
  obtain ⟨y0, y1, y2, y3, y4, y5, y6, rfl⟩ := list7 (l := xs) (by simpa using hlen)
  have kI : Try.prog.cellsOf 3 = 1 := by kernel_rfl
  have kN : Try.prog.cellsOf 23 = 3 := by kernel_rfl
  have kB : Try.prog.cellsOf 24 = 1 := by kernel_rfl
  have kA : Try.prog.cellsOf 25 = 1 := by kernel_rfl
  have kS : Try.prog.cellsOf 9 = 1 := by kernel_rfl
  have kK : Try.prog.cellsOf 26 = 1 := by kernel_rfl
  have g0 := hf 0 _ rfl
  have g1 := hf 1 _ rfl
  have g2 := hf 2 _ rfl
  have g3 := hf 3 _ rfl
  have g4 := hf 4 _ rfl
  have g5 := hf 5 _ rfl
  have g6 := hf 6 _ rfl
  simp only [List.getElem?_cons_zero, List.getElem?_cons_succ] at g0 g1 g2 g3 g4 g5 g6
  obtain ⟨k, e0, _⟩ := DataW.trod_int Try.underlying3 g0
  injection e0 with e0
  obtain ⟨nm, e1, e2, e3⟩ := open_name g1
  obtain ⟨bA, bn, bc, brows, e4, _, hbs, hbr⟩ := open_rows (s := 2) Try.underlying24 (by kernel_rfl) (by omega) g2
  obtain ⟨bs, hbm, _⟩ := exists_map (f := Bd.cells) (p := fun _ => True) (rows := brows) (fun r hr' => by
    obtain ⟨h1, k, y, _, hy⟩ := hbr r hr'
    exact open_rbd hy h1)
  obtain ⟨aA, an, ac, arows, e5, _, has, har⟩ := open_rows (s := 5) Try.underlying25 (by kernel_rfl) (by omega) g3
  obtain ⟨al, ham, _⟩ := exists_map (f := Att.cells) (p := fun _ => True) (rows := arows) (fun r hr' => by
    obtain ⟨h1, k, y, _, hy⟩ := har r hr'
    exact open_att hy h1)
  obtain ⟨s, e6, hs6, _⟩ := DataW.trod_string Try.underlying9 g4
  obtain ⟨q, e7, _⟩ := DataW.trod_string Try.underlying9 g5
  obtain ⟨kA, kn, kc, krows, e8, _, hks, hkr⟩ := open_rows_w (s := 9) Try.underlying26 (by kernel_rfl) (by omega) g6
  obtain ⟨ks, hkm, hkp⟩ := exists_map (f := Nd.cells) (p := fun x => x.ok w ∧ ((∀ m ∈ y6.1.weights Try.prog 26, m ≤ b) → Txts b x.tr)) (rows := krows) (fun r hr' => by
    obtain ⟨h1, k, y, hk, hy, hw⟩ := hkr r hr'
    obtain ⟨x, hx1, hx2, hx3⟩ := ih k (by omega) r y hy h1
    exact ⟨x, hx1, hx2, fun hm => hx3 (fun m hm' => hm m (hw m hm'))⟩)
  injection e4 with e4
  injection e5 with e5
  injection e6 with e6
  injection e7 with e7
  injection e8 with e8
  subst e0 e1 e2 e3 e4 e5 e6 e7 e8
  rw [flat_of hbm] at hbs
  rw [flat_of ham] at has
  rw [flat_of hkm] at hks
  refine ⟨Nd.mk k nm bA bn bc bs aA an ac al s q kA kn kc ks, rfl, .mk hbs has hks (fun x hx => (hkp x hx).1), fun hw => ?_⟩
  rw [Nd.tr_mk]
  rw [hy] at hw
  simp only [DataW.weights, Try.underlying28, List.map_cons, List.map_nil, DataW.weightsEach, List.mem_append] at hw
  refine .mk ?_ ?_
  · have h1 := hw s.data.toList.length (by
      rw [hs6]
      simp [DataW.weights])
    simpa using h1
  · intro x hx
    obtain ⟨z, hz, rfl⟩ := List.mem_map.1 hx
    exact (hkp z hz).2 (fun m hm => hw m (by simp [hm]))
set_option maxRecDepth 100000 in
theorem open_nd_arg {b : Nat} {r : Reach} {b0 : Nat} {v : Value} {d : DataW H} {ps : List MemPlace} (hval : Value.okWide Try.prog w r b0 28 v) (hd : DataW.Trod enc Try.prog w base spare held 28 v d ps) :
    ∃ x : Nd, v = x.val ∧ x.ok w ∧ ((∀ m ∈ d.weights Try.prog 28, m ≤ b) → Txts b x.tr) := by
  obtain ⟨cs, rfl, hsz⟩ := okWide_struct Try.underlying28 hval
  have hC : Try.prog.cellsOf 28 = 9 := by kernel_rfl
  rw [hC] at hsz
  obtain ⟨l, rfl⟩ : ∃ l : List Value, cs = l.toArray := ⟨cs.toList, by simp⟩
  obtain ⟨fuel, hf⟩ := hd
  have hf' : DataW.trod enc Try.prog w base spare held fuel 28 l = some (d, ps) := by simpa [Value.cells] using hf
  obtain ⟨x, h1, h2, h3⟩ := open_nd (b := b) fuel l (d, ps) hf' (by simpa using hsz)
  exact ⟨x, by rw [Nd.val, h1], h2, h3⟩
end
end Go.Proofs.Ytnlncamiaddhfaa
