/- A line's fields: walked (printed by wip/gen/gen_scrh.py). -/
import Derived.Test.YtmcmicgdkdbgjaaDoorScrG
namespace Go.Proofs.YtmcmicgdkdbgjaaDoor
open Go.RowKit
attribute [local go_sem ↓] Go.wp_at_zero Go.wp_at_succ

/-- A step as it stands in memory. -/
structure Ov where
  k : Nat
  A : Option Addr
  c : Nat
  p : List Nat
  B : Option Addr
  d : Nat
  q : List Nat
  n : Nat
  a : Bs
  t : Bs
def Ov.cells (o : Ov) : Array Value := #[.int .i64 (o.k : Int), .slice o.A o.p.length o.c, .slice o.B o.q.length o.d, .int .i64 (o.n : Int), .string (strB o.a), .string (strB o.t)]
def Ov.val (o : Ov) : Value := .agg o.cells
def Ov.st (o : Ov) : St := ⟨o.k, o.p, o.q, o.n, o.a, o.t⟩
def Ov.ok (o : Ov) (w : World) : Prop := Sl w 1 o.A o.p.length o.c (o.p.map natV) ∧ Sl w 1 o.B o.q.length o.d (o.q.map natV)
def Ov.far (o : Ov) (f : Nat → Prop) : Prop := (∀ b i, o.A = some ⟨b, i, none⟩ → f b) ∧ ∀ b i, o.B = some ⟨b, i, none⟩ → f b
def Ov.nil (k : Nat) : Ov := ⟨k, none, 0, [], none, 0, [], 0, [], []⟩
theorem Ov.nil_ok (k : Nat) (w : World) : (Ov.nil k).ok w := ⟨Sl.nil_, Sl.nil_⟩
theorem Ov.nil_far (k : Nat) (f : Nat → Prop) : (Ov.nil k).far f := ⟨fun _ _ e => by (cases e), fun _ _ e => by (cases e)⟩
theorem grown_then {w w1 w2 : World} {r : Option Nat} {b : Nat} (h : w.grownBy w1 r) (k : w1.grownBy w2 (some b)) (hb : w.heap.size ≤ b) : w.grownBy w2 r :=
  ⟨k.os.trans h.os, k.tape.trans h.tape, k.output.trans h.output, Nat.le_trans h.size k.size, fun j hj hne => (k.block j (Nat.lt_of_lt_of_le hj h.size) (fun e => by injection e with e; omega)).trans (h.block j hj hne)⟩
theorem grown_iter (w : World) (k : Nat) (s : ByteArray) (p : Nat) : w.grownBy (w.iterAt k s p) (some k) :=
  ⟨rfl, rfl, rfl, by rw [Lib.iterAt_size]; exact Nat.le_refl _, fun j _ hne => Lib.iterAt_other w k j s p (fun e => hne (by rw [e]))⟩
/-- Where the reading of the fields stands. -/
structure Fx (w : World) (g go gr it : Nat) (S : ByteArray) (wr : World) (o : Ov) (X : ByteArray) (pos : Nat) : Prop where
  rd : Rd wr g X
  bo : Blk wr go o.cells 37
  br : Blk wr gr (Ov.nil 0).cells 37
  hit : wr.heap[it]? = some (.stringIter S pos)
  ok : o.ok wr
  far : o.far fun b => b ≠ g ∧ b ≠ go ∧ b ≠ gr ∧ b ≠ it ∧ w.heap.size ≤ b
  gn : w.grownBy wr (some g)
  lo : w.heap.size ≤ go ∧ w.heap.size ≤ gr ∧ w.heap.size ≤ it
  ne : g ≠ go ∧ g ≠ gr ∧ g ≠ it ∧ go ≠ gr ∧ go ≠ it ∧ gr ≠ it
  sz : X.size ≤ 1000000
section
variable {w wr w2 : World} {g go gr it pos : Nat} {S X X' : ByteArray} {o : Ov}
theorem Fx.itlt (h : Fx w g go gr it S wr o X pos) : it < wr.heap.size := by
  rcases Nat.lt_or_ge it wr.heap.size with h1 | h1
  · exact h1
  · have := h.hit
    rw [Array.getElem?_eq_none h1] at this
    cases this
theorem Fx.next (h : Fx w g go gr it S wr o X pos) (p : Nat) : Fx w g go gr it S (wr.iterAt it S p) o X p := by
  have k := grown_iter wr it S p
  obtain ⟨n1, n2, n3, n4, n5, n6⟩ := h.ne
  exact ⟨Blk.grown h.rd k (fun e => n3 (Option.some.inj e)), Blk.grown h.bo k (fun e => n5 (Option.some.inj e)), Blk.grown h.br k (fun e => n6 (Option.some.inj e)), Lib.iterAt_heap wr it S pos p h.hit,
    ⟨h.ok.1.grown k (fun b i e e2 => (h.far.1 b i e).2.2.2.1 (Option.some.inj e2)), h.ok.2.grown k (fun b i e e2 => (h.far.2 b i e).2.2.2.1 (Option.some.inj e2))⟩, h.far, grown_then h.gn k h.lo.2.2, h.lo, h.ne, h.sz⟩
theorem Fx.read (h : Fx w g go gr it S wr o X pos) (k : wr.grownBy w2 (some g)) (hr : Rd w2 g X') (hX : X'.size ≤ 1000000) : Fx w g go gr it S w2 o X' pos := by
  obtain ⟨n1, n2, n3, n4, n5, n6⟩ := h.ne
  exact ⟨hr, Blk.grown h.bo k (fun e => n1 (Option.some.inj e).symm), Blk.grown h.br k (fun e => n2 (Option.some.inj e).symm), (k.block it h.itlt (fun e => n3 (Option.some.inj e).symm)).trans h.hit,
    ⟨h.ok.1.grown k (fun b i e e2 => (h.far.1 b i e).1 (Option.some.inj e2)), h.ok.2.grown k (fun b i e e2 => (h.far.2 b i e).1 (Option.some.inj e2))⟩, h.far, h.gn.trans k, h.lo, h.ne, hX⟩
theorem Fx.put (h : Fx w g go gr it S wr o X pos) {o' : Ov} (i : Nat) (u : Value) (hc : o'.cells = o.cells.setIfInBounds i u) (hok : o'.ok wr) (hf : o'.far fun b => b ≠ g ∧ b ≠ go ∧ b ≠ gr ∧ b ≠ it ∧ w.heap.size ≤ b) : Fx w g go gr it S (wr.setCell ⟨go, i, none⟩ u) o' X pos := by
  obtain ⟨n1, n2, n3, n4, n5, n6⟩ := h.ne
  have k := grown_setCell wr ⟨go, i, none⟩ u
  refine ⟨Blk.grown h.rd k (fun e => n1 (Option.some.inj e)), ?_, Blk.grown h.br k (fun e => n4 (Option.some.inj e).symm), (k.block it h.itlt (fun e => n5 (Option.some.inj e).symm)).trans h.hit,
    ⟨hok.1.grown k (fun b i e e2 => (hf.1 b i e).2.1 (Option.some.inj e2)), hok.2.grown k (fun b i e e2 => (hf.2 b i e).2.1 (Option.some.inj e2))⟩, hf, grown_then h.gn k h.lo.1, h.lo, h.ne, h.sz⟩
  rw [hc]
  exact Blk.set h.bo i u
end
theorem body_named {P : Program} {f : Func} {post : Ending → World → Prop} {ex : Exit} {a : Act} {w : World} (h : ∀ w', w' = w → bodyPost P f post ex a w') : bodyPost P f post ex a w := h w rfl
def zeroSet (w2 : World) (gr : Nat) : World := (((((w2.setCell ⟨gr, 0, none⟩ (.int .i64 0)).setCell ⟨gr, 1, none⟩ (.slice none 0 0)).setCell ⟨gr, 2, none⟩ (.slice none 0 0)).setCell ⟨gr, 3, none⟩ (.int .i64 0)).setCell ⟨gr, 4, none⟩ (.string ⟨#[]⟩)).setCell ⟨gr, 5, none⟩ (.string ⟨#[]⟩)
theorem Fx.zero {w w2 : World} {g go gr it pos : Nat} {S X : ByteArray} {o : Ov} (h : Fx w g go gr it S w2 o X pos) : Blk (zeroSet w2 gr) gr (Ov.nil 0).cells 37 ∧ w.grownBy (zeroSet w2 gr) (some g) := by
  refine ⟨(((((h.br.set 0 _).set 1 _).set 2 _).set 3 _).set 4 _).set 5 _, grown_then h.gn ?_ h.lo.2.1⟩
  have k0 := grown_setCell w2 ⟨gr, 0, none⟩ (.int .i64 0)
  have k1 := k0.trans (grown_setCell _ ⟨gr, 1, none⟩ (.slice none 0 0))
  have k2 := k1.trans (grown_setCell _ ⟨gr, 2, none⟩ (.slice none 0 0))
  have k3 := k2.trans (grown_setCell _ ⟨gr, 3, none⟩ (.int .i64 0))
  have k4 := k3.trans (grown_setCell _ ⟨gr, 4, none⟩ (.string ⟨#[]⟩))
  exact k4.trans (grown_setCell _ ⟨gr, 5, none⟩ (.string ⟨#[]⟩))
def opSet (w2 : World) (gr : Nat) (o : Ov) : World := (((((w2.setCell ⟨gr, 0, none⟩ (.int .i64 (o.k : Int))).setCell ⟨gr, 1, none⟩ (.slice o.A o.p.length o.c)).setCell ⟨gr, 2, none⟩ (.slice o.B o.q.length o.d)).setCell ⟨gr, 3, none⟩ (.int .i64 (o.n : Int))).setCell ⟨gr, 4, none⟩ (.string (strB o.a))).setCell ⟨gr, 5, none⟩ (.string (strB o.t))
theorem Fx.give {w w2 : World} {g go gr it pos : Nat} {S X : ByteArray} {o : Ov} (h : Fx w g go gr it S w2 o X pos) : Blk (opSet w2 gr o) gr o.cells 37 ∧ w.grownBy (opSet w2 gr o) (some g) ∧ o.ok (opSet w2 gr o) := by
  have k0 := grown_setCell w2 ⟨gr, 0, none⟩ (.int .i64 (o.k : Int))
  have k1 := k0.trans (grown_setCell _ ⟨gr, 1, none⟩ (.slice o.A o.p.length o.c))
  have k2 := k1.trans (grown_setCell _ ⟨gr, 2, none⟩ (.slice o.B o.q.length o.d))
  have k3 := k2.trans (grown_setCell _ ⟨gr, 3, none⟩ (.int .i64 (o.n : Int)))
  have k4 := k3.trans (grown_setCell _ ⟨gr, 4, none⟩ (.string (strB o.a)))
  have k5 : w2.grownBy (opSet w2 gr o) (some gr) := k4.trans (grown_setCell _ ⟨gr, 5, none⟩ (.string (strB o.t)))
  exact ⟨(((((h.br.set 0 _).set 1 _).set 2 _).set 3 _).set 4 _).set 5 _, grown_then h.gn k5 h.lo.2.1, h.ok.1.grown k5 (fun b i e e2 => (h.far.1 b i e).2.2.1 (Option.some.inj e2)), h.ok.2.grown k5 (fun b i e e2 => (h.far.2 b i e).2.2.1 (Option.some.inj e2))⟩
theorem Fx.gave {w w2 w' : World} {g go gr it pos : Nat} {S X : ByteArray} {o : Ov} (h : Fx w g go gr it S w2 o X pos) (hw : w' = (opSet w2 gr o).drew) : Blk w' gr o.cells 37 ∧ w.grownBy w' (some g) ∧ o.ok w' := by
  obtain ⟨h1, h2, h3⟩ := h.give
  subst hw
  generalize opSet w2 gr o = w3 at h1 h2 h3
  have k : w3.grownBy w3.drew (some g) := ⟨rfl, rfl, rfl, Nat.le_refl _, fun _ _ _ => rfl⟩
  exact ⟨h1.drew, h2.trans k, ⟨h3.1.drew, h3.2.drew⟩⟩
theorem ex_named {Q : Exit → Act → World → Prop} {ex : Exit} {a : Act} {w : World} (h : ∀ w', w' = w → Q ex a w') : Q ex a w := h w rfl
theorem ff_no {o : St} {c : UInt8} {cs l : Bs} (h : blankB l = false) : fieldsF o (c :: cs) l = none := by
  have : fieldF o c l = none := by
    cases l with
    | nil => rfl
    | cons b r =>
      have hb : b ≠ 32 := by simpa [blankB] using h
      rw [fieldF, if_pos hb]
  rw [fieldsF, this]
theorem ff_yes {l : Bs} (h : blankB l = true) : l = 32 :: l.drop 1 := by
  cases l with
  | nil => cases h
  | cons b r =>
    have hb : b = 32 := by simpa [blankB] using h
    rw [hb]
    rfl
/-- What one field gives, behind its blank. -/
def fieldG (o : St) (c : UInt8) (r : Bs) : Option (St × Bs) :=
  if c = 97 then (readF r).map fun x => ({ o with a := x.1 }, r.drop x.2)
  else if c = 116 then (readF r).map fun x => ({ o with t := x.1 }, r.drop x.2)
  else match pathF (r.take (toBlank r)) with
    | none => none
    | some p => if c = 112 then some ({ o with p := p }, r.drop (toBlank r)) else if c = 113 then some ({ o with q := p }, r.drop (toBlank r)) else
      match p with
      | [n] => some ({ o with n := n }, r.drop (toBlank r))
      | _ => none
theorem ff_step {o : St} {c : UInt8} {cs l : Bs} (h : blankB l = true) : fieldsF o (c :: cs) l = match fieldG o c (l.drop 1) with
    | none => none
    | some x => fieldsF x.1 cs x.2 := by
  have e : fieldF o c l = fieldG o c (l.drop 1) := by
    rw [ff_yes h]
    rfl
  rw [fieldsF, e]
  cases fieldG o c (l.drop 1) <;> rfl
theorem wp_named {P : Program} {c : Code} {Q : Exit → Act → World → Prop} {a : Act} {w : World} (h : ∀ w', w' = w → Code.wp P c Q a w') : Code.wp P c Q a w := h w rfl
theorem fg_p {o : St} {r : Bs} {p : List Nat} (h : pathF (r.take (toBlank r)) = some p) : fieldG o 112 r = some ({ o with p := p }, r.drop (toBlank r)) := by
  unfold fieldG
  rw [if_neg (by decide), if_neg (by decide), h]
  rfl
theorem fg_q {o : St} {r : Bs} {p : List Nat} (h : pathF (r.take (toBlank r)) = some p) : fieldG o 113 r = some ({ o with q := p }, r.drop (toBlank r)) := by
  unfold fieldG
  rw [if_neg (by decide), if_neg (by decide), h]
  rfl
theorem fg_pn {o : St} {c : UInt8} {r : Bs} (h1 : c ≠ 97) (h2 : c ≠ 116) (h : pathF (r.take (toBlank r)) = none) : fieldG o c r = none := by
  unfold fieldG
  rw [if_neg h1, if_neg h2, h]
theorem fg_n {o : St} {r : Bs} {n : Nat} (h : pathF (r.take (toBlank r)) = some [n]) : fieldG o 110 r = some ({ o with n := n }, r.drop (toBlank r)) := by
  unfold fieldG
  rw [if_neg (by decide), if_neg (by decide), h]
  rfl
theorem fg_nn {o : St} {r : Bs} (h : ¬ ∃ n, pathF (r.take (toBlank r)) = some [n]) : fieldG o 110 r = none := by
  unfold fieldG
  rw [if_neg (by decide), if_neg (by decide)]
  generalize pathF (r.take (toBlank r)) = z at h ⊢
  match z, h with
  | none, _ => rfl
  | some [], _ => rfl
  | some [n], h => exact absurd ⟨n, rfl⟩ h
  | some (_ :: _ :: _), _ => rfl
theorem RNumOf.no {g : Nat} {X : ByteArray} {w w' : World} {e : Ending} (h : RNumOf g X w e w') (hn : ¬ ∃ n, pathF (X.toList.take (toBlank X.toList)) = some [n]) : RdBehind g w w' (X.toList.drop (toBlank X.toList)) ∧ e = .returned (.tuple #[.int .i64 0, .bool false]) := by
  obtain ⟨h1, h2⟩ := h
  refine ⟨h1, ?_⟩
  generalize pathF (X.toList.take (toBlank X.toList)) = z at hn h2
  match z, hn, h2 with
  | none, _, h2 => exact h2
  | some [], _, h2 => exact h2
  | some [n], hn, _ => exact absurd ⟨n, rfl⟩ hn
  | some (_ :: _ :: _), _, h2 => exact h2
theorem RNumOf.yes {g n : Nat} {X : ByteArray} {w w' : World} {e : Ending} (h : RNumOf g X w e w') (hn : pathF (X.toList.take (toBlank X.toList)) = some [n]) : RdBehind g w w' (X.toList.drop (toBlank X.toList)) ∧ e = .returned (.tuple #[.int .i64 (n : Int), .bool true]) := by
  obtain ⟨h1, h2⟩ := h
  rw [hn] at h2
  exact ⟨h1, h2⟩
theorem fg_a {o : St} {r : Bs} {x : Bs × Nat} (h : readF r = some x) : fieldG o 97 r = some ({ o with a := x.1 }, r.drop x.2) := by
  unfold fieldG
  rw [if_pos rfl, h]
  rfl
theorem fg_t {o : St} {r : Bs} {x : Bs × Nat} (h : readF r = some x) : fieldG o 116 r = some ({ o with t := x.1 }, r.drop x.2) := by
  unfold fieldG
  rw [if_neg (by decide), if_pos rfl, h]
  rfl
theorem fg_an {o : St} {c : UInt8} {r : Bs} (hc : c = 97 ∨ c = 116) (h : readF r = none) : fieldG o c r = none := by
  unfold fieldG
  rcases hc with rfl | rfl
  · rw [if_pos rfl, h]
    rfl
  · rw [if_neg (by decide), if_pos rfl, h]
    rfl
theorem behind_sz {g : Nat} {X : ByteArray} {w w' : World} {k : Nat} (hX : X.size ≤ 1000000) (h : RdBehind g w w' (X.toList.drop k)) : ∃ X' : ByteArray, X'.toList = X.toList.drop k ∧ X'.size ≤ 1000000 ∧ Rd w' g X' ∧ w.grownBy w' (some g) := by
  obtain ⟨⟨X', h1, h2⟩, h3⟩ := h
  refine ⟨X', h1, ?_, h2, h3⟩
  have := congrArg List.length h1
  rw [bytes_len, List.length_drop, bytes_len] at this
  omega
/-- The signs that there are. -/
def signB (c : UInt8) : Bool := c == 112 || c == 113 || c == 110 || c == 97 || c == 116
/-- What the fields give. -/
def FieldsOf (g : Nat) (w : World) (r : Option (St × Bs)) (e : Ending) (w' : World) : Prop := w.grownBy w' (some g) ∧ ∃ ov : Ov, match r with
  | some (s, []) => e = .returned (.tuple #[ov.val, .bool true]) ∧ ov.st = s ∧ ov.ok w' ∧ ov.far (fun b => w.heap.size ≤ b)
  | _ => e = .returned (.tuple #[ov.val, .bool false])
theorem FieldsOf.no {g : Nat} {w w' : World} {e : Ending} {r : Option (St × Bs)} (hr : r = none) (hg : w.grownBy w' (some g)) (ov : Ov) (he : e = .returned (.tuple #[ov.val, .bool false])) : FieldsOf g w r e w' := by
  subst hr
  exact ⟨hg, ov, he⟩
theorem FieldsOf.out_no {g : Nat} {w w' : World} {e : Ending} {r : Option (St × Bs)} {s : St} {l : Bs} (hr : r = some (s, l)) (hl : l ≠ []) (hg : w.grownBy w' (some g)) (ov : Ov) (he : e = .returned (.tuple #[ov.val, .bool false])) : FieldsOf g w r e w' := by
  subst hr
  refine ⟨hg, ov, ?_⟩
  cases l with
  | nil => exact absurd rfl hl
  | cons b l => exact he
theorem FieldsOf.out_yes {g : Nat} {w w' : World} {e : Ending} {r : Option (St × Bs)} {s : St} {l : Bs} (hr : r = some (s, l)) (hl : l = []) (hg : w.grownBy w' (some g)) (ov : Ov) (he : e = .returned (.tuple #[ov.val, .bool true])) (hs : ov.st = s) (ho : ov.ok w') (hf : ov.far fun b => w.heap.size ≤ b) : FieldsOf g w r e w' := by
  subst hr
  subst hl
  exact ⟨hg, ov, he, hs, ho, hf⟩
set_option maxRecDepth 100000 in
set_option maxHeartbeats 8000000 in
theorem fields_any (g k : Nat) (sg : Bs) (X : ByteArray) (w : World) (h : Rd w g X) (hX : X.size ≤ 1000000) (hsg : sg.all signB = true) (hsl : sg.length ≤ 10) :
    Calls Tryd.prog 44 #[.pointer (some ⟨g, 0, none⟩), .agg #[.int .i64 (k : Int), .slice none 0 0, .slice none 0 0, .int .i64 0, .string ⟨#[]⟩, .string ⟨#[]⟩], .string (strB sg)] w fun e w' => FieldsOf g w (fieldsF (Ov.nil k).st sg X.toList) e w' := by
  have HSG := Lib.hid hsg
  have hS : (strB sg).size = sg.length := by rw [← bytes_len, strB_list]
  obtain ⟨S, hSS⟩ : ∃ S, strB sg = S := ⟨_, rfl⟩
  have hSl : S.toList = sg := by rw [← hSS, strB_list]
  rw [hSS] at hS ⊢
  have HSL := Lib.hid hSl
  have hSz : S.size ≤ 10 := by omega
  obtain ⟨r, hr⟩ : ∃ r, fieldsF (Ov.nil k).st sg X.toList = r := ⟨_, rfl⟩
  rw [hr]
  have hgl := Blk.lt h
  have hfx : Fx w g w.heap.size (w.heap.size + 1) (w.heap.size + 2) S (((w.alloc (.cells #[.int .i64 (k : Int), .slice none 0 0, .slice none 0 0, .int .i64 0, .string ⟨#[]⟩, .string ⟨#[]⟩] 37)).alloc (.cells #[.int .i64 0, .slice none 0 0, .slice none 0 0, .int .i64 0, .string ⟨#[]⟩, .string ⟨#[]⟩] 37)).iter S 0) (Ov.nil k) X 0 := by
    show Fx w g w.heap.size (w.heap.size + 1) (w.heap.size + 2) S (((w.alloc (.cells (Ov.nil k).cells 37)).alloc (.cells (Ov.nil 0).cells 37)).alloc (.stringIter S 0)) (Ov.nil k) X 0
    refine ⟨((Blk.alloc h _).alloc _).alloc _, ?_, ?_, ?_, Ov.nil_ok _ _, Ov.nil_far _ _, ?_, ⟨by omega, by omega, by omega⟩, ⟨by omega, by omega, by omega, by omega, by omega, by omega⟩, hX⟩
    · exact ((Blk.new w _ _).alloc _).alloc _
    · have := (Blk.new (w.alloc (.cells (Ov.nil k).cells 37)) (Ov.nil 0).cells 37).alloc (.stringIter S 0)
      simpa using this
    · have := World.iter_heap ((w.alloc (.cells (Ov.nil k).cells 37)).alloc (.cells (Ov.nil 0).cells 37)) S 0
      have e : ((w.alloc (.cells (Ov.nil k).cells 37)).alloc (.cells (Ov.nil 0).cells 37)).heap.size = w.heap.size + 2 := by simp
      rw [e] at this
      exact this
    · exact grown_kept ((((Kept.refl w).alloc _).alloc _).alloc _) _
  have HR := Lib.hid hr
  clear hSS hSl hsg hsl hS hr h hX hgl
  go_enter Tryd.func44, Tryd.ntmps44
  go_wp2_with fail
  generalize ((w.alloc (.cells #[.int .i64 (k : Int), .slice none 0 0, .slice none 0 0, .int .i64 0, .string ⟨#[]⟩, .string ⟨#[]⟩] 37)).alloc (.cells #[.int .i64 0, .slice none 0 0, .slice none 0 0, .int .i64 0, .string ⟨#[]⟩, .string ⟨#[]⟩] 37)).iter S 0 = w1 at hfx ⊢
  obtain ⟨it, hit⟩ : ∃ it, w.heap.size + 2 = it := ⟨_, rfl⟩
  obtain ⟨gr, hgr⟩ : ∃ gr, w.heap.size + 1 = gr := ⟨_, rfl⟩
  obtain ⟨go, hgo⟩ : ∃ go, w.heap.size = go := ⟨_, rfl⟩
  rw [hit, hgr, hgo] at hfx
  rw [hit, hgr, hgo]
  have HF1 := Lib.hid hfx
  have HR0 : Hid (fieldsF (Ov.nil k).st (sg.drop 0) X.toList = r) := HR.out
  clear hit hgr hgo hfx HR
  go_loopw [10] (fun _ wr => ∃ (pos : Nat) (o : Ov) (X : ByteArray), pos ≤ S.size ∧ Hid (Fx w g go gr it S wr o X pos) ∧ Hid (fieldsF o.st (sg.drop pos) X.toList = r)) (fun _ wr => S.size - wr.iterPos it)
  case atStart => exact ⟨0, Ov.nil k, X, Nat.zero_le _, HF1, HR0⟩
  case round =>
    clear HF1 HR0
    obtain ⟨pos, o, X, hps, HF, HR⟩ := hrel
    have hit := HF.out.hit
    by_cases hp : pos < S.size
    · have hmu : wr.iterPos it = pos := iterPos_of hit
      obtain ⟨c, hc⟩ : ∃ c, S[pos]'hp = c := ⟨_, rfl⟩
      have hget : sg[pos]? = some c := by
        rw [← HSL.out, bytes_get hp, hc]
      have HD := Lib.hid (drop_at hget)
      have hsc : signB c = true := List.all_eq_true.1 HSG.out c (List.mem_of_getElem? hget)
      have hc128 : c.toNat < 128 := by
        unfold signB at hsc
        simp at hsc
        rcases hsc with (((h | h) | h) | h) | h <;> rw [h] <;> decide
      have h128 : (S[pos]'hp).toNat < 128 := by rw [hc]; exact hc128
      have hnext : ∀ ty, (Instr.next (.pointer (some ⟨it, 0, none⟩)) true ty).run Tryd.prog wr = _ := fun ty => Lib.run_next_ascii_at wr it S pos ty hit hp h128
      have HF1 := Lib.hid (HF.out.next (pos + 1))
      generalize wr.iterAt it S (pos + 1) = W1 at hnext HF1
      rw [hc] at hnext
      have HB := Lib.hid (rblank_any g X W1 HF1.out.rd)
      have HSC := Lib.hid hsc
      clear hget hsc h128 hc hit
      cases hb : blankB X.toList with
      | false =>
        have HZ : Hid (r = none) := by
          have := HR.out
          rw [HD.out, ff_no hb] at this
          exact this.symm
        have HB0 : Hid (Calls Tryd.prog 58 #[.pointer (some ⟨g, 0, none⟩)] W1 fun e w' => e = .returned (.bool false) ∧ ∃ X' : ByteArray, X'.size ≤ 1000000 ∧ Rd w' g X' ∧ W1.grownBy w' (some g)) := by
          refine HB.out.mono ?_
          rintro e w' ⟨X', h1, h2, h3, h4⟩
          rw [hb] at h1 h2
          refine ⟨h1, X', ?_, h3, h4⟩
          have := congrArg List.length h2
          rw [bytes_len, if_neg (by simp), bytes_len] at this
          have := HF1.out.sz
          omega
        clear HB hb
        go_wp2_with fail
        refine HB0.out.mono ?_
        rintro e w2 ⟨rfl, X', hX', hr2, g2⟩
        have HF2 := Lib.hid (HF1.out.read g2 hr2 hX')
        have fr := Blk.frozen HF2.out.br
        have bc := Blk.cell HF2.out.br
        have z0 : w2.cell? ⟨gr, 0, none⟩ = some (.int .i64 0) := bc 0
        have z1 : w2.cell? ⟨gr, 1, none⟩ = some (.slice none 0 0) := bc 1
        have z2 : w2.cell? ⟨gr, 2, none⟩ = some (.slice none 0 0) := bc 2
        have z3 : w2.cell? ⟨gr, 3, none⟩ = some (.int .i64 0) := bc 3
        have z4 : w2.cell? ⟨gr, 4, none⟩ = some (.string ⟨#[]⟩) := bc 4
        have z5 : w2.cell? ⟨gr, 5, none⟩ = some (.string ⟨#[]⟩) := bc 5
        clear hX' hr2 g2 bc
        go_wp2_with fail
        refine body_named ?_
        intro w3 hw3
        have e3 : w3 = zeroSet w2 gr := hw3
        have hz := HF2.out.zero
        rw [← e3] at hz
        have bz := Blk.cell hz.1
        have y0 : w3.cell? ⟨gr, 0, none⟩ = some (.int .i64 0) := bz 0
        have y1 : w3.cell? ⟨gr, 1, none⟩ = some (.slice none 0 0) := bz 1
        have y2 : w3.cell? ⟨gr, 2, none⟩ = some (.slice none 0 0) := bz 2
        have y3 : w3.cell? ⟨gr, 3, none⟩ = some (.int .i64 0) := bz 3
        have y4 : w3.cell? ⟨gr, 4, none⟩ = some (.string ⟨#[]⟩) := bz 4
        have y5 : w3.cell? ⟨gr, 5, none⟩ = some (.string ⟨#[]⟩) := bz 5
        refine bodyPost_ret (v := .tuple #[.agg #[.int .i64 0, .slice none 0 0, .slice none 0 0, .int .i64 0, .string ⟨#[]⟩, .string ⟨#[]⟩], .bool false]) ?_ rfl ?_
        · simp [results, Tryd.results44, go_sem, y0, y1, y2, y3, y4, y5]
        · exact FieldsOf.no HZ.out hz.2 (Ov.nil 0) rfl
      | true =>
        have HG : Hid (r = match fieldG o.st c (X.toList.drop 1) with
          | none => none
          | some x => fieldsF x.1 (sg.drop (pos + 1)) x.2) := by
          have := HR.out
          rw [HD.out, ff_step hb] at this
          exact this.symm
        have HB0 : Hid (Calls Tryd.prog 58 #[.pointer (some ⟨g, 0, none⟩)] W1 fun e w' => e = .returned (.bool true) ∧ ∃ X' : ByteArray, X'.toList = X.toList.drop 1 ∧ X'.size ≤ 1000000 ∧ Rd w' g X' ∧ W1.grownBy w' (some g)) := by
          refine HB.out.mono ?_
          rintro e w' ⟨X', h1, h2, h3, h4⟩
          rw [hb] at h1 h2
          rw [if_pos rfl] at h2
          refine ⟨h1, X', h2, ?_, h3, h4⟩
          have := congrArg List.length h2
          rw [bytes_len, List.length_drop, bytes_len] at this
          have := HF1.out.sz
          omega
        have hcs : c = 112 ∨ c = 113 ∨ c = 110 ∨ c = 97 ∨ c = 116 := by
          have := HSC.out
          unfold signB at this
          simp at this
          rcases this with (((h | h) | h) | h) | h <;> simp [h]
        clear HB hb HR HD HSC hc128
        rcases hcs with rfl | rfl | rfl | rfl | rfl
        · have hC : ((112 : UInt8).toNat : Int) = 112 := rfl
          rw [hC] at hnext
          clear hC
          go_wp2_with fail
          refine HB0.out.mono ?_
          rintro e w2 ⟨rfl, X', hXd, hX', hr2, g2⟩
          have HF2 := Lib.hid (HF1.out.read g2 hr2 hX')
          have HG2 : Hid (r = match fieldG o.st 112 X'.toList with
            | none => none
            | some x => fieldsF x.1 (sg.drop (pos + 1)) x.2) := by
            unfold Hid
            rw [hXd]
            exact HG.out
          have HC := Lib.hid (rpath_any g X' w2 hr2 hX')
          clear hXd hr2 g2 HB0 HG
          cases hz : pathF (X'.toList.take (toBlank X'.toList)) with
          | none =>
            have HZ : Hid (r = none) := by
              have := HG2.out
              rwa [fg_pn (by decide) (by decide) hz] at this
            have HC0 : Hid (Calls Tryd.prog 59 #[.pointer (some ⟨g, 0, none⟩)] w2 fun e w' => e = .returned (.tuple #[.slice none 0 0, .bool false]) ∧ ∃ X3 : ByteArray, X3.size ≤ 1000000 ∧ Rd w' g X3 ∧ w2.grownBy w' (some g)) := by
              refine HC.out.mono ?_
              rintro e w' ⟨h1, h2⟩
              rw [hz] at h2
              obtain ⟨X3, _, h4, h5, h6⟩ := behind_sz hX' h1
              exact ⟨h2, X3, h4, h5, h6⟩
            clear HC
            go_wp2_with fail
            refine HC0.out.mono ?_
            rintro e w3 ⟨rfl, X3, hX3, hr3, g3⟩
            have HF3 := Lib.hid (HF2.out.read g3 hr3 hX3)
            have fr := Blk.frozen HF3.out.bo
            have bc : w3.cell? ⟨go, 1, none⟩ = some (.slice o.A o.p.length o.c) := Blk.cell HF3.out.bo 1
            clear hX3 hr3 g3
            go_upto_region 17 with fail
            refine wp_named ?_
            intro w4 hw4
            have HF4 : Hid (Fx w g go gr it S w4 { o with A := none, c := 0, p := [] } X3 (pos + 1)) := by
              rw [hw4]
              exact HF3.out.put (o' := { o with A := none, c := 0, p := [] }) 1 _ rfl ⟨Sl.nil_, HF3.out.ok.2⟩ ⟨fun _ _ e => by (cases e), HF3.out.far.2⟩
            clear hw4 bc fr
            have hz := HF4.out.zero
            have fr4 := Blk.frozen HF4.out.br
            have bc4 := Blk.cell HF4.out.br
            have z0 : w4.cell? ⟨gr, 0, none⟩ = some (.int .i64 0) := bc4 0
            have z1 : w4.cell? ⟨gr, 1, none⟩ = some (.slice none 0 0) := bc4 1
            have z2 : w4.cell? ⟨gr, 2, none⟩ = some (.slice none 0 0) := bc4 2
            have z3 : w4.cell? ⟨gr, 3, none⟩ = some (.int .i64 0) := bc4 3
            have z4 : w4.cell? ⟨gr, 4, none⟩ = some (.string ⟨#[]⟩) := bc4 4
            have z5 : w4.cell? ⟨gr, 5, none⟩ = some (.string ⟨#[]⟩) := bc4 5
            have HZZ := Lib.hid hz
            clear bc4 hz
            go_wp2_with fail
            refine body_named ?_
            intro w5 hw5
            have e5 : w5 = zeroSet w4 gr := hw5
            have hz := HZZ.out
            rw [← e5] at hz
            have bz := Blk.cell hz.1
            have y0 : w5.cell? ⟨gr, 0, none⟩ = some (.int .i64 0) := bz 0
            have y1 : w5.cell? ⟨gr, 1, none⟩ = some (.slice none 0 0) := bz 1
            have y2 : w5.cell? ⟨gr, 2, none⟩ = some (.slice none 0 0) := bz 2
            have y3 : w5.cell? ⟨gr, 3, none⟩ = some (.int .i64 0) := bz 3
            have y4 : w5.cell? ⟨gr, 4, none⟩ = some (.string ⟨#[]⟩) := bz 4
            have y5 : w5.cell? ⟨gr, 5, none⟩ = some (.string ⟨#[]⟩) := bz 5
            refine bodyPost_ret (v := .tuple #[.agg #[.int .i64 0, .slice none 0 0, .slice none 0 0, .int .i64 0, .string ⟨#[]⟩, .string ⟨#[]⟩], .bool false]) ?_ rfl ?_
            · simp [results, Tryd.results44, go_sem, y0, y1, y2, y3, y4, y5]
            · exact FieldsOf.no HZ.out hz.2 (Ov.nil 0) rfl
          | some p =>
            have HG3 : Hid (r = fieldsF { o.st with p := p } (sg.drop (pos + 1)) (X'.toList.drop (toBlank X'.toList))) := by
              have := HG2.out
              rwa [fg_p hz] at this
            have HC0 : Hid (Calls Tryd.prog 59 #[.pointer (some ⟨g, 0, none⟩)] w2 fun e w' => ∃ VA VC, e = .returned (.tuple #[.slice VA p.length VC, .bool true]) ∧ Sl w' 1 VA p.length VC (p.map natV) ∧ (∀ b i, VA = some ⟨b, i, none⟩ → w2.heap.size ≤ b) ∧ ∃ X3 : ByteArray, X3.toList = X'.toList.drop (toBlank X'.toList) ∧ X3.size ≤ 1000000 ∧ Rd w' g X3 ∧ w2.grownBy w' (some g)) := by
              refine HC.out.mono ?_
              rintro e w' ⟨h1, h2⟩
              rw [hz] at h2
              obtain ⟨VA, VC, h3, h4, h5⟩ := h2
              exact ⟨VA, VC, h3, h4, h5, behind_sz hX' h1⟩
            obtain ⟨m, hm⟩ : ∃ m, p.length = m := ⟨_, rfl⟩
            rw [hm] at HC0
            have HM := Lib.hid hm
            clear hm hz
            clear HC
            go_wp2_with fail
            refine HC0.out.mono ?_
            rintro e w3 ⟨VA, VC, rfl, hV, hVb, X3, hX3d, hX3, hr3, g3⟩
            have HF3 := Lib.hid (HF2.out.read g3 hr3 hX3)
            have fr := Blk.frozen HF3.out.bo
            have bc : w3.cell? ⟨go, 1, none⟩ = some (.slice o.A o.p.length o.c) := Blk.cell HF3.out.bo 1
            have HVV := Lib.hid hV
            have HVF : Hid (∀ b i, VA = some ⟨b, i, none⟩ → b ≠ g ∧ b ≠ go ∧ b ≠ gr ∧ b ≠ it ∧ w.heap.size ≤ b) := by
              intro b i e
              have hb := hVb b i e
              have u1 := Blk.lt HF2.out.rd
              have u2 := Blk.lt HF2.out.bo
              have u3 := Blk.lt HF2.out.br
              have u4 := HF2.out.itlt
              have u5 := HF2.out.gn.size
              exact ⟨by omega, by omega, by omega, by omega, by omega⟩
            have HR4 : Hid (fieldsF (Ov.st { o with A := VA, c := VC, p := p }) (sg.drop (pos + 1)) X3.toList = r) := by
              unfold Hid
              rw [hX3d]
              exact HG3.out.symm
            clear hV hVb hX3d hX3 hr3 g3
            go_upto_region 17 with fail
            refine wp_named ?_
            intro w4 hw4
            have HF4 : Hid (Fx w g go gr it S w4 { o with A := VA, c := VC, p := p } X3 (pos + 1)) := by
              rw [hw4]
              exact HF3.out.put (o' := { o with A := VA, c := VC, p := p }) 1 _ (by have hm := HM.out; subst hm; rfl) ⟨by rw [HM.out]; exact HVV.out, HF3.out.ok.2⟩ ⟨HVF.out, HF3.out.far.2⟩
            clear hw4 bc fr
            have hit4 := HF4.out.hit
            go_wp2_with fail
            go_roundw
            case rel => exact ⟨pos + 1, { o with A := VA, c := VC, p := p }, X3, hp, HF4, HR4⟩
            case measure =>
              rw [hmu, iterPos_of hit4]
              omega
        · have hC : ((113 : UInt8).toNat : Int) = 113 := rfl
          rw [hC] at hnext
          clear hC
          go_wp2_with fail
          refine HB0.out.mono ?_
          rintro e w2 ⟨rfl, X', hXd, hX', hr2, g2⟩
          have HF2 := Lib.hid (HF1.out.read g2 hr2 hX')
          have HG2 : Hid (r = match fieldG o.st 113 X'.toList with
            | none => none
            | some x => fieldsF x.1 (sg.drop (pos + 1)) x.2) := by
            unfold Hid
            rw [hXd]
            exact HG.out
          have HC := Lib.hid (rpath_any g X' w2 hr2 hX')
          clear hXd hr2 g2 HB0 HG
          cases hz : pathF (X'.toList.take (toBlank X'.toList)) with
          | none =>
            have HZ : Hid (r = none) := by
              have := HG2.out
              rwa [fg_pn (by decide) (by decide) hz] at this
            have HC0 : Hid (Calls Tryd.prog 59 #[.pointer (some ⟨g, 0, none⟩)] w2 fun e w' => e = .returned (.tuple #[.slice none 0 0, .bool false]) ∧ ∃ X3 : ByteArray, X3.size ≤ 1000000 ∧ Rd w' g X3 ∧ w2.grownBy w' (some g)) := by
              refine HC.out.mono ?_
              rintro e w' ⟨h1, h2⟩
              rw [hz] at h2
              obtain ⟨X3, _, h4, h5, h6⟩ := behind_sz hX' h1
              exact ⟨h2, X3, h4, h5, h6⟩
            clear HC
            go_wp2_with fail
            refine HC0.out.mono ?_
            rintro e w3 ⟨rfl, X3, hX3, hr3, g3⟩
            have HF3 := Lib.hid (HF2.out.read g3 hr3 hX3)
            have fr := Blk.frozen HF3.out.bo
            have bc : w3.cell? ⟨go, 2, none⟩ = some (.slice o.B o.q.length o.d) := Blk.cell HF3.out.bo 2
            clear hX3 hr3 g3
            go_upto_region 17 with fail
            refine wp_named ?_
            intro w4 hw4
            have HF4 : Hid (Fx w g go gr it S w4 { o with B := none, d := 0, q := [] } X3 (pos + 1)) := by
              rw [hw4]
              exact HF3.out.put (o' := { o with B := none, d := 0, q := [] }) 2 _ rfl ⟨HF3.out.ok.1, Sl.nil_⟩ ⟨HF3.out.far.1, fun _ _ e => by (cases e)⟩
            clear hw4 bc fr
            have hz := HF4.out.zero
            have fr4 := Blk.frozen HF4.out.br
            have bc4 := Blk.cell HF4.out.br
            have z0 : w4.cell? ⟨gr, 0, none⟩ = some (.int .i64 0) := bc4 0
            have z1 : w4.cell? ⟨gr, 1, none⟩ = some (.slice none 0 0) := bc4 1
            have z2 : w4.cell? ⟨gr, 2, none⟩ = some (.slice none 0 0) := bc4 2
            have z3 : w4.cell? ⟨gr, 3, none⟩ = some (.int .i64 0) := bc4 3
            have z4 : w4.cell? ⟨gr, 4, none⟩ = some (.string ⟨#[]⟩) := bc4 4
            have z5 : w4.cell? ⟨gr, 5, none⟩ = some (.string ⟨#[]⟩) := bc4 5
            have HZZ := Lib.hid hz
            clear bc4 hz
            go_wp2_with fail
            refine body_named ?_
            intro w5 hw5
            have e5 : w5 = zeroSet w4 gr := hw5
            have hz := HZZ.out
            rw [← e5] at hz
            have bz := Blk.cell hz.1
            have y0 : w5.cell? ⟨gr, 0, none⟩ = some (.int .i64 0) := bz 0
            have y1 : w5.cell? ⟨gr, 1, none⟩ = some (.slice none 0 0) := bz 1
            have y2 : w5.cell? ⟨gr, 2, none⟩ = some (.slice none 0 0) := bz 2
            have y3 : w5.cell? ⟨gr, 3, none⟩ = some (.int .i64 0) := bz 3
            have y4 : w5.cell? ⟨gr, 4, none⟩ = some (.string ⟨#[]⟩) := bz 4
            have y5 : w5.cell? ⟨gr, 5, none⟩ = some (.string ⟨#[]⟩) := bz 5
            refine bodyPost_ret (v := .tuple #[.agg #[.int .i64 0, .slice none 0 0, .slice none 0 0, .int .i64 0, .string ⟨#[]⟩, .string ⟨#[]⟩], .bool false]) ?_ rfl ?_
            · simp [results, Tryd.results44, go_sem, y0, y1, y2, y3, y4, y5]
            · exact FieldsOf.no HZ.out hz.2 (Ov.nil 0) rfl
          | some p =>
            have HG3 : Hid (r = fieldsF { o.st with q := p } (sg.drop (pos + 1)) (X'.toList.drop (toBlank X'.toList))) := by
              have := HG2.out
              rwa [fg_q hz] at this
            have HC0 : Hid (Calls Tryd.prog 59 #[.pointer (some ⟨g, 0, none⟩)] w2 fun e w' => ∃ VA VC, e = .returned (.tuple #[.slice VA p.length VC, .bool true]) ∧ Sl w' 1 VA p.length VC (p.map natV) ∧ (∀ b i, VA = some ⟨b, i, none⟩ → w2.heap.size ≤ b) ∧ ∃ X3 : ByteArray, X3.toList = X'.toList.drop (toBlank X'.toList) ∧ X3.size ≤ 1000000 ∧ Rd w' g X3 ∧ w2.grownBy w' (some g)) := by
              refine HC.out.mono ?_
              rintro e w' ⟨h1, h2⟩
              rw [hz] at h2
              obtain ⟨VA, VC, h3, h4, h5⟩ := h2
              exact ⟨VA, VC, h3, h4, h5, behind_sz hX' h1⟩
            obtain ⟨m, hm⟩ : ∃ m, p.length = m := ⟨_, rfl⟩
            rw [hm] at HC0
            have HM := Lib.hid hm
            clear hm hz
            clear HC
            go_wp2_with fail
            refine HC0.out.mono ?_
            rintro e w3 ⟨VA, VC, rfl, hV, hVb, X3, hX3d, hX3, hr3, g3⟩
            have HF3 := Lib.hid (HF2.out.read g3 hr3 hX3)
            have fr := Blk.frozen HF3.out.bo
            have bc : w3.cell? ⟨go, 2, none⟩ = some (.slice o.B o.q.length o.d) := Blk.cell HF3.out.bo 2
            have HVV := Lib.hid hV
            have HVF : Hid (∀ b i, VA = some ⟨b, i, none⟩ → b ≠ g ∧ b ≠ go ∧ b ≠ gr ∧ b ≠ it ∧ w.heap.size ≤ b) := by
              intro b i e
              have hb := hVb b i e
              have u1 := Blk.lt HF2.out.rd
              have u2 := Blk.lt HF2.out.bo
              have u3 := Blk.lt HF2.out.br
              have u4 := HF2.out.itlt
              have u5 := HF2.out.gn.size
              exact ⟨by omega, by omega, by omega, by omega, by omega⟩
            have HR4 : Hid (fieldsF (Ov.st { o with B := VA, d := VC, q := p }) (sg.drop (pos + 1)) X3.toList = r) := by
              unfold Hid
              rw [hX3d]
              exact HG3.out.symm
            clear hV hVb hX3d hX3 hr3 g3
            go_upto_region 17 with fail
            refine wp_named ?_
            intro w4 hw4
            have HF4 : Hid (Fx w g go gr it S w4 { o with B := VA, d := VC, q := p } X3 (pos + 1)) := by
              rw [hw4]
              exact HF3.out.put (o' := { o with B := VA, d := VC, q := p }) 2 _ (by have hm := HM.out; subst hm; rfl) ⟨HF3.out.ok.1, by rw [HM.out]; exact HVV.out⟩ ⟨HF3.out.far.1, HVF.out⟩
            clear hw4 bc fr
            have hit4 := HF4.out.hit
            go_wp2_with fail
            go_roundw
            case rel => exact ⟨pos + 1, { o with B := VA, d := VC, q := p }, X3, hp, HF4, HR4⟩
            case measure =>
              rw [hmu, iterPos_of hit4]
              omega
        · have hC : ((110 : UInt8).toNat : Int) = 110 := rfl
          rw [hC] at hnext
          clear hC
          go_wp2_with fail
          refine HB0.out.mono ?_
          rintro e w2 ⟨rfl, X', hXd, hX', hr2, g2⟩
          have HF2 := Lib.hid (HF1.out.read g2 hr2 hX')
          have HG2 : Hid (r = match fieldG o.st 110 X'.toList with
            | none => none
            | some x => fieldsF x.1 (sg.drop (pos + 1)) x.2) := by
            unfold Hid
            rw [hXd]
            exact HG.out
          have HC := Lib.hid (rnum_any g X' w2 hr2 hX')
          clear hXd hr2 g2 HB0 HG
          by_cases hz : ∃ n, pathF (X'.toList.take (toBlank X'.toList)) = some [n]
          · obtain ⟨n, hz⟩ := hz
            have HG3 : Hid (r = fieldsF { o.st with n := n } (sg.drop (pos + 1)) (X'.toList.drop (toBlank X'.toList))) := by
              have := HG2.out
              rwa [fg_n hz] at this
            have HC0 : Hid (Calls Tryd.prog 60 #[.pointer (some ⟨g, 0, none⟩)] w2 fun e w' => e = .returned (.tuple #[.int .i64 (n : Int), .bool true]) ∧ ∃ X3 : ByteArray, X3.toList = X'.toList.drop (toBlank X'.toList) ∧ X3.size ≤ 1000000 ∧ Rd w' g X3 ∧ w2.grownBy w' (some g)) := by
              refine HC.out.mono ?_
              rintro e w' h
              obtain ⟨h1, h2⟩ := RNumOf.yes h hz
              exact ⟨h2, behind_sz hX' h1⟩
            clear hz
            clear HC
            go_wp2_with fail
            refine HC0.out.mono ?_
            rintro e w3 ⟨rfl, X3, hX3d, hX3, hr3, g3⟩
            have HF3 := Lib.hid (HF2.out.read g3 hr3 hX3)
            have fr := Blk.frozen HF3.out.bo
            have bc : w3.cell? ⟨go, 3, none⟩ = some (.int .i64 (o.n : Int)) := Blk.cell HF3.out.bo 3
            have HR4 : Hid (fieldsF (Ov.st { o with n := n }) (sg.drop (pos + 1)) X3.toList = r) := by
              unfold Hid
              rw [hX3d]
              exact HG3.out.symm
            clear hX3d hX3 hr3 g3
            go_upto_region 17 with fail
            refine wp_named ?_
            intro w4 hw4
            have HF4 : Hid (Fx w g go gr it S w4 { o with n := n } X3 (pos + 1)) := by
              rw [hw4]
              exact HF3.out.put (o' := { o with n := n }) 3 _ rfl HF3.out.ok HF3.out.far
            clear hw4 bc fr
            have hit4 := HF4.out.hit
            go_wp2_with fail
            go_roundw
            case rel => exact ⟨pos + 1, { o with n := n }, X3, hp, HF4, HR4⟩
            case measure =>
              rw [hmu, iterPos_of hit4]
              omega
          ·
            have HZ : Hid (r = none) := by
              have := HG2.out
              rwa [fg_nn hz] at this
            have HC0 : Hid (Calls Tryd.prog 60 #[.pointer (some ⟨g, 0, none⟩)] w2 fun e w' => e = .returned (.tuple #[.int .i64 0, .bool false]) ∧ ∃ X3 : ByteArray, X3.size ≤ 1000000 ∧ Rd w' g X3 ∧ w2.grownBy w' (some g)) := by
              refine HC.out.mono ?_
              rintro e w' h
              obtain ⟨h1, h2⟩ := RNumOf.no h hz
              obtain ⟨X3, _, h4, h5, h6⟩ := behind_sz hX' h1
              exact ⟨h2, X3, h4, h5, h6⟩
            clear HC
            go_wp2_with fail
            refine HC0.out.mono ?_
            rintro e w3 ⟨rfl, X3, hX3, hr3, g3⟩
            have HF3 := Lib.hid (HF2.out.read g3 hr3 hX3)
            have fr := Blk.frozen HF3.out.bo
            have bc : w3.cell? ⟨go, 3, none⟩ = some (.int .i64 (o.n : Int)) := Blk.cell HF3.out.bo 3
            clear hX3 hr3 g3
            go_upto_region 17 with fail
            refine wp_named ?_
            intro w4 hw4
            have HF4 : Hid (Fx w g go gr it S w4 { o with n := 0 } X3 (pos + 1)) := by
              rw [hw4]
              exact HF3.out.put (o' := { o with n := 0 }) 3 _ rfl HF3.out.ok HF3.out.far
            clear hw4 bc fr
            have hz := HF4.out.zero
            have fr4 := Blk.frozen HF4.out.br
            have bc4 := Blk.cell HF4.out.br
            have z0 : w4.cell? ⟨gr, 0, none⟩ = some (.int .i64 0) := bc4 0
            have z1 : w4.cell? ⟨gr, 1, none⟩ = some (.slice none 0 0) := bc4 1
            have z2 : w4.cell? ⟨gr, 2, none⟩ = some (.slice none 0 0) := bc4 2
            have z3 : w4.cell? ⟨gr, 3, none⟩ = some (.int .i64 0) := bc4 3
            have z4 : w4.cell? ⟨gr, 4, none⟩ = some (.string ⟨#[]⟩) := bc4 4
            have z5 : w4.cell? ⟨gr, 5, none⟩ = some (.string ⟨#[]⟩) := bc4 5
            have HZZ := Lib.hid hz
            clear bc4 hz
            go_wp2_with fail
            refine body_named ?_
            intro w5 hw5
            have e5 : w5 = zeroSet w4 gr := hw5
            have hz := HZZ.out
            rw [← e5] at hz
            have bz := Blk.cell hz.1
            have y0 : w5.cell? ⟨gr, 0, none⟩ = some (.int .i64 0) := bz 0
            have y1 : w5.cell? ⟨gr, 1, none⟩ = some (.slice none 0 0) := bz 1
            have y2 : w5.cell? ⟨gr, 2, none⟩ = some (.slice none 0 0) := bz 2
            have y3 : w5.cell? ⟨gr, 3, none⟩ = some (.int .i64 0) := bz 3
            have y4 : w5.cell? ⟨gr, 4, none⟩ = some (.string ⟨#[]⟩) := bz 4
            have y5 : w5.cell? ⟨gr, 5, none⟩ = some (.string ⟨#[]⟩) := bz 5
            refine bodyPost_ret (v := .tuple #[.agg #[.int .i64 0, .slice none 0 0, .slice none 0 0, .int .i64 0, .string ⟨#[]⟩, .string ⟨#[]⟩], .bool false]) ?_ rfl ?_
            · simp [results, Tryd.results44, go_sem, y0, y1, y2, y3, y4, y5]
            · exact FieldsOf.no HZ.out hz.2 (Ov.nil 0) rfl
        · have hC : ((97 : UInt8).toNat : Int) = 97 := rfl
          rw [hC] at hnext
          clear hC
          go_wp2_with fail
          refine HB0.out.mono ?_
          rintro e w2 ⟨rfl, X', hXd, hX', hr2, g2⟩
          have HF2 := Lib.hid (HF1.out.read g2 hr2 hX')
          have HG2 : Hid (r = match fieldG o.st 97 X'.toList with
            | none => none
            | some x => fieldsF x.1 (sg.drop (pos + 1)) x.2) := by
            unfold Hid
            rw [hXd]
            exact HG.out
          have HC := Lib.hid (rquo_any g X' w2 hr2 hX')
          clear hXd hr2 g2 HB0 HG
          cases hz : readF X'.toList with
          | none =>
            have HZ : Hid (r = none) := by
              have := HG2.out
              rwa [fg_an (by decide) hz] at this
            have HC0 : Hid (Calls Tryd.prog 61 #[.pointer (some ⟨g, 0, none⟩)] w2 fun e w' => e = .returned (.tuple #[.string ⟨#[]⟩, .bool false]) ∧ ∃ X3 : ByteArray, X3.size ≤ 1000000 ∧ Rd w' g X3 ∧ w2.grownBy w' (some g)) := by
              refine HC.out.mono ?_
              rintro e w' h
              unfold RQuoOf at h
              rw [hz] at h
              obtain ⟨X3, _, h4, h5, h6⟩ := behind_sz (k := 0) hX' (by rw [List.drop_zero]; exact h.2)
              exact ⟨h.1, X3, h4, h5, h6⟩
            clear HC
            go_wp2_with fail
            refine HC0.out.mono ?_
            rintro e w3 ⟨rfl, X3, hX3, hr3, g3⟩
            have HF3 := Lib.hid (HF2.out.read g3 hr3 hX3)
            have fr := Blk.frozen HF3.out.bo
            have bc : w3.cell? ⟨go, 4, none⟩ = some (.string (strB o.a)) := Blk.cell HF3.out.bo 4
            clear hX3 hr3 g3
            go_upto_region 17 with fail
            refine wp_named ?_
            intro w4 hw4
            have HF4 : Hid (Fx w g go gr it S w4 { o with a := [] } X3 (pos + 1)) := by
              rw [hw4]
              exact HF3.out.put (o' := { o with a := [] }) 4 _ rfl HF3.out.ok HF3.out.far
            clear hw4 bc fr
            have hz := HF4.out.zero
            have fr4 := Blk.frozen HF4.out.br
            have bc4 := Blk.cell HF4.out.br
            have z0 : w4.cell? ⟨gr, 0, none⟩ = some (.int .i64 0) := bc4 0
            have z1 : w4.cell? ⟨gr, 1, none⟩ = some (.slice none 0 0) := bc4 1
            have z2 : w4.cell? ⟨gr, 2, none⟩ = some (.slice none 0 0) := bc4 2
            have z3 : w4.cell? ⟨gr, 3, none⟩ = some (.int .i64 0) := bc4 3
            have z4 : w4.cell? ⟨gr, 4, none⟩ = some (.string ⟨#[]⟩) := bc4 4
            have z5 : w4.cell? ⟨gr, 5, none⟩ = some (.string ⟨#[]⟩) := bc4 5
            have HZZ := Lib.hid hz
            clear bc4 hz
            go_wp2_with fail
            refine body_named ?_
            intro w5 hw5
            have e5 : w5 = zeroSet w4 gr := hw5
            have hz := HZZ.out
            rw [← e5] at hz
            have bz := Blk.cell hz.1
            have y0 : w5.cell? ⟨gr, 0, none⟩ = some (.int .i64 0) := bz 0
            have y1 : w5.cell? ⟨gr, 1, none⟩ = some (.slice none 0 0) := bz 1
            have y2 : w5.cell? ⟨gr, 2, none⟩ = some (.slice none 0 0) := bz 2
            have y3 : w5.cell? ⟨gr, 3, none⟩ = some (.int .i64 0) := bz 3
            have y4 : w5.cell? ⟨gr, 4, none⟩ = some (.string ⟨#[]⟩) := bz 4
            have y5 : w5.cell? ⟨gr, 5, none⟩ = some (.string ⟨#[]⟩) := bz 5
            refine bodyPost_ret (v := .tuple #[.agg #[.int .i64 0, .slice none 0 0, .slice none 0 0, .int .i64 0, .string ⟨#[]⟩, .string ⟨#[]⟩], .bool false]) ?_ rfl ?_
            · simp [results, Tryd.results44, go_sem, y0, y1, y2, y3, y4, y5]
            · exact FieldsOf.no HZ.out hz.2 (Ov.nil 0) rfl
          | some x =>
            have HG3 : Hid (r = fieldsF { o.st with a := x.1 } (sg.drop (pos + 1)) (X'.toList.drop x.2)) := by
              have := HG2.out
              rwa [fg_a hz] at this
            have HC0 : Hid (Calls Tryd.prog 61 #[.pointer (some ⟨g, 0, none⟩)] w2 fun e w' => e = .returned (.tuple #[.string (strB x.1), .bool true]) ∧ ∃ X3 : ByteArray, X3.toList = X'.toList.drop x.2 ∧ X3.size ≤ 1000000 ∧ Rd w' g X3 ∧ w2.grownBy w' (some g)) := by
              refine HC.out.mono ?_
              rintro e w' h
              unfold RQuoOf at h
              rw [hz] at h
              exact ⟨h.1, behind_sz hX' h.2⟩
            clear hz
            clear HC
            go_wp2_with fail
            refine HC0.out.mono ?_
            rintro e w3 ⟨rfl, X3, hX3d, hX3, hr3, g3⟩
            have HF3 := Lib.hid (HF2.out.read g3 hr3 hX3)
            have fr := Blk.frozen HF3.out.bo
            have bc : w3.cell? ⟨go, 4, none⟩ = some (.string (strB o.a)) := Blk.cell HF3.out.bo 4
            have HR4 : Hid (fieldsF (Ov.st { o with a := x.1 }) (sg.drop (pos + 1)) X3.toList = r) := by
              unfold Hid
              rw [hX3d]
              exact HG3.out.symm
            clear hX3d hX3 hr3 g3
            go_upto_region 17 with fail
            refine wp_named ?_
            intro w4 hw4
            have HF4 : Hid (Fx w g go gr it S w4 { o with a := x.1 } X3 (pos + 1)) := by
              rw [hw4]
              exact HF3.out.put (o' := { o with a := x.1 }) 4 _ rfl HF3.out.ok HF3.out.far
            clear hw4 bc fr
            have hit4 := HF4.out.hit
            go_wp2_with fail
            go_roundw
            case rel => exact ⟨pos + 1, { o with a := x.1 }, X3, hp, HF4, HR4⟩
            case measure =>
              rw [hmu, iterPos_of hit4]
              omega
        · have hC : ((116 : UInt8).toNat : Int) = 116 := rfl
          rw [hC] at hnext
          clear hC
          go_wp2_with fail
          refine HB0.out.mono ?_
          rintro e w2 ⟨rfl, X', hXd, hX', hr2, g2⟩
          have HF2 := Lib.hid (HF1.out.read g2 hr2 hX')
          have HG2 : Hid (r = match fieldG o.st 116 X'.toList with
            | none => none
            | some x => fieldsF x.1 (sg.drop (pos + 1)) x.2) := by
            unfold Hid
            rw [hXd]
            exact HG.out
          have HC := Lib.hid (rquo_any g X' w2 hr2 hX')
          clear hXd hr2 g2 HB0 HG
          cases hz : readF X'.toList with
          | none =>
            have HZ : Hid (r = none) := by
              have := HG2.out
              rwa [fg_an (by decide) hz] at this
            have HC0 : Hid (Calls Tryd.prog 61 #[.pointer (some ⟨g, 0, none⟩)] w2 fun e w' => e = .returned (.tuple #[.string ⟨#[]⟩, .bool false]) ∧ ∃ X3 : ByteArray, X3.size ≤ 1000000 ∧ Rd w' g X3 ∧ w2.grownBy w' (some g)) := by
              refine HC.out.mono ?_
              rintro e w' h
              unfold RQuoOf at h
              rw [hz] at h
              obtain ⟨X3, _, h4, h5, h6⟩ := behind_sz (k := 0) hX' (by rw [List.drop_zero]; exact h.2)
              exact ⟨h.1, X3, h4, h5, h6⟩
            clear HC
            go_wp2_with fail
            refine HC0.out.mono ?_
            rintro e w3 ⟨rfl, X3, hX3, hr3, g3⟩
            have HF3 := Lib.hid (HF2.out.read g3 hr3 hX3)
            have fr := Blk.frozen HF3.out.bo
            have bc : w3.cell? ⟨go, 5, none⟩ = some (.string (strB o.t)) := Blk.cell HF3.out.bo 5
            clear hX3 hr3 g3
            go_upto_region 17 with fail
            refine wp_named ?_
            intro w4 hw4
            have HF4 : Hid (Fx w g go gr it S w4 { o with t := [] } X3 (pos + 1)) := by
              rw [hw4]
              exact HF3.out.put (o' := { o with t := [] }) 5 _ rfl HF3.out.ok HF3.out.far
            clear hw4 bc fr
            have hz := HF4.out.zero
            have fr4 := Blk.frozen HF4.out.br
            have bc4 := Blk.cell HF4.out.br
            have z0 : w4.cell? ⟨gr, 0, none⟩ = some (.int .i64 0) := bc4 0
            have z1 : w4.cell? ⟨gr, 1, none⟩ = some (.slice none 0 0) := bc4 1
            have z2 : w4.cell? ⟨gr, 2, none⟩ = some (.slice none 0 0) := bc4 2
            have z3 : w4.cell? ⟨gr, 3, none⟩ = some (.int .i64 0) := bc4 3
            have z4 : w4.cell? ⟨gr, 4, none⟩ = some (.string ⟨#[]⟩) := bc4 4
            have z5 : w4.cell? ⟨gr, 5, none⟩ = some (.string ⟨#[]⟩) := bc4 5
            have HZZ := Lib.hid hz
            clear bc4 hz
            go_wp2_with fail
            refine body_named ?_
            intro w5 hw5
            have e5 : w5 = zeroSet w4 gr := hw5
            have hz := HZZ.out
            rw [← e5] at hz
            have bz := Blk.cell hz.1
            have y0 : w5.cell? ⟨gr, 0, none⟩ = some (.int .i64 0) := bz 0
            have y1 : w5.cell? ⟨gr, 1, none⟩ = some (.slice none 0 0) := bz 1
            have y2 : w5.cell? ⟨gr, 2, none⟩ = some (.slice none 0 0) := bz 2
            have y3 : w5.cell? ⟨gr, 3, none⟩ = some (.int .i64 0) := bz 3
            have y4 : w5.cell? ⟨gr, 4, none⟩ = some (.string ⟨#[]⟩) := bz 4
            have y5 : w5.cell? ⟨gr, 5, none⟩ = some (.string ⟨#[]⟩) := bz 5
            refine bodyPost_ret (v := .tuple #[.agg #[.int .i64 0, .slice none 0 0, .slice none 0 0, .int .i64 0, .string ⟨#[]⟩, .string ⟨#[]⟩], .bool false]) ?_ rfl ?_
            · simp [results, Tryd.results44, go_sem, y0, y1, y2, y3, y4, y5]
            · exact FieldsOf.no HZ.out hz.2 (Ov.nil 0) rfl
          | some x =>
            have HG3 : Hid (r = fieldsF { o.st with t := x.1 } (sg.drop (pos + 1)) (X'.toList.drop x.2)) := by
              have := HG2.out
              rwa [fg_t hz] at this
            have HC0 : Hid (Calls Tryd.prog 61 #[.pointer (some ⟨g, 0, none⟩)] w2 fun e w' => e = .returned (.tuple #[.string (strB x.1), .bool true]) ∧ ∃ X3 : ByteArray, X3.toList = X'.toList.drop x.2 ∧ X3.size ≤ 1000000 ∧ Rd w' g X3 ∧ w2.grownBy w' (some g)) := by
              refine HC.out.mono ?_
              rintro e w' h
              unfold RQuoOf at h
              rw [hz] at h
              exact ⟨h.1, behind_sz hX' h.2⟩
            clear hz
            clear HC
            go_wp2_with fail
            refine HC0.out.mono ?_
            rintro e w3 ⟨rfl, X3, hX3d, hX3, hr3, g3⟩
            have HF3 := Lib.hid (HF2.out.read g3 hr3 hX3)
            have fr := Blk.frozen HF3.out.bo
            have bc : w3.cell? ⟨go, 5, none⟩ = some (.string (strB o.t)) := Blk.cell HF3.out.bo 5
            have HR4 : Hid (fieldsF (Ov.st { o with t := x.1 }) (sg.drop (pos + 1)) X3.toList = r) := by
              unfold Hid
              rw [hX3d]
              exact HG3.out.symm
            clear hX3d hX3 hr3 g3
            go_upto_region 17 with fail
            refine wp_named ?_
            intro w4 hw4
            have HF4 : Hid (Fx w g go gr it S w4 { o with t := x.1 } X3 (pos + 1)) := by
              rw [hw4]
              exact HF3.out.put (o' := { o with t := x.1 }) 5 _ rfl HF3.out.ok HF3.out.far
            clear hw4 bc fr
            have hit4 := HF4.out.hit
            go_wp2_with fail
            go_roundw
            case rel => exact ⟨pos + 1, { o with t := x.1 }, X3, hp, HF4, HR4⟩
            case measure =>
              rw [hmu, iterPos_of hit4]
              omega
    · have hnext : ∀ ty, (Instr.next (.pointer (some ⟨it, 0, none⟩)) true ty).run Tryd.prog wr = _ := fun ty => Lib.run_next_end_at wr it S pos ty hit hp
      have HZ : Hid (r = some (o.st, X.toList)) := by
        have := HR.out
        rw [List.drop_eq_nil_of_le (by rw [← HSL.out, bytes_len]; omega)] at this
        exact this.symm
      have HGB := Lib.hid (fun (w' : World) (hw : w' = (opSet wr gr o).drew) => HF.out.gave hw)
      have fr := Blk.frozen HF.out.br
      have bz := Blk.cell HF.out.br
      have z0 : wr.cell? ⟨gr, 0, none⟩ = some (.int .i64 0) := bz 0
      have z1 : wr.cell? ⟨gr, 1, none⟩ = some (.slice none 0 0) := bz 1
      have z2 : wr.cell? ⟨gr, 2, none⟩ = some (.slice none 0 0) := bz 2
      have z3 : wr.cell? ⟨gr, 3, none⟩ = some (.int .i64 0) := bz 3
      have z4 : wr.cell? ⟨gr, 4, none⟩ = some (.string ⟨#[]⟩) := bz 4
      have z5 : wr.cell? ⟨gr, 5, none⟩ = some (.string ⟨#[]⟩) := bz 5
      have bo := Blk.cell HF.out.bo
      have HFAR := Lib.hid HF.out.far
      have n1 : ¬ gr = g := fun e => HF.out.ne.2.1 e.symm
      have n2 : ¬ g = gr := HF.out.ne.2.1
      obtain ⟨ok, oA, oc, op, oB, od, oq, on, oa, ot⟩ := o
      have o0 : wr.cell? ⟨go, 0, none⟩ = some (.int .i64 (ok : Int)) := bo 0
      have o1 : wr.cell? ⟨go, 1, none⟩ = some (.slice oA op.length oc) := bo 1
      have o2 : wr.cell? ⟨go, 2, none⟩ = some (.slice oB oq.length od) := bo 2
      have o3 : wr.cell? ⟨go, 3, none⟩ = some (.int .i64 (on : Int)) := bo 3
      have o4 : wr.cell? ⟨go, 4, none⟩ = some (.string (strB oa)) := bo 4
      have o5 : wr.cell? ⟨go, 5, none⟩ = some (.string (strB ot)) := bo 5
      have x0 := HF.out.rd.cell
      cases hx : (X.toList == []) with
      | false =>
        have hx2 : X.toList.isEmpty = false := by
          cases hl : X.toList with
          | nil => rw [hl] at hx; cases hx
          | cons _ _ => rfl
        clear bz bo hit
        go_upto_region 19 with fail
        go_region
        refine ex_named ?_
        intro w2 hw2
        obtain ⟨b2, g2, k2⟩ := HGB.out w2 hw2
        have HKK := Lib.hid k2
        have bz := Blk.cell b2
        have y0 : w2.cell? ⟨gr, 0, none⟩ = some (.int .i64 (ok : Int)) := bz 0
        have y1 : w2.cell? ⟨gr, 1, none⟩ = some (.slice oA op.length oc) := bz 1
        have y2 : w2.cell? ⟨gr, 2, none⟩ = some (.slice oB oq.length od) := bz 2
        have y3 : w2.cell? ⟨gr, 3, none⟩ = some (.int .i64 (on : Int)) := bz 3
        have y4 : w2.cell? ⟨gr, 4, none⟩ = some (.string (strB oa)) := bz 4
        have y5 : w2.cell? ⟨gr, 5, none⟩ = some (.string (strB ot)) := bz 5
        clear hw2 bz z0 z1 z2 z3 z4 z5 o0 o1 o2 o3 o4 o5 x0 fr k2
        go_wp2_with fail
        refine bodyPost_ret (v := .tuple #[.agg #[.int .i64 (ok : Int), .slice oA op.length oc, .slice oB oq.length od, .int .i64 (on : Int), .string (strB oa), .string (strB ot)], .bool false]) ?_ rfl ?_
        · simp [results, Tryd.results44, go_sem, y0, y1, y2, y3, y4, y5]
        · exact FieldsOf.out_no HZ.out (fun e => by rw [e] at hx; cases hx) g2 ⟨ok, oA, oc, op, oB, od, oq, on, oa, ot⟩ rfl
      | true =>
        have hx2 : X.toList.isEmpty = true := by
          have : X.toList = [] := by simpa using hx
          rw [this]
          rfl
        clear bz bo hit
        go_upto_region 19 with fail
        go_region
        refine ex_named ?_
        intro w2 hw2
        obtain ⟨b2, g2, k2⟩ := HGB.out w2 hw2
        have HKK := Lib.hid k2
        have bz := Blk.cell b2
        have y0 : w2.cell? ⟨gr, 0, none⟩ = some (.int .i64 (ok : Int)) := bz 0
        have y1 : w2.cell? ⟨gr, 1, none⟩ = some (.slice oA op.length oc) := bz 1
        have y2 : w2.cell? ⟨gr, 2, none⟩ = some (.slice oB oq.length od) := bz 2
        have y3 : w2.cell? ⟨gr, 3, none⟩ = some (.int .i64 (on : Int)) := bz 3
        have y4 : w2.cell? ⟨gr, 4, none⟩ = some (.string (strB oa)) := bz 4
        have y5 : w2.cell? ⟨gr, 5, none⟩ = some (.string (strB ot)) := bz 5
        clear hw2 bz z0 z1 z2 z3 z4 z5 o0 o1 o2 o3 o4 o5 x0 fr k2
        go_wp2_with fail
        refine bodyPost_ret (v := .tuple #[.agg #[.int .i64 (ok : Int), .slice oA op.length oc, .slice oB oq.length od, .int .i64 (on : Int), .string (strB oa), .string (strB ot)], .bool true]) ?_ rfl ?_
        · simp [results, Tryd.results44, go_sem, y0, y1, y2, y3, y4, y5]
        · exact FieldsOf.out_yes HZ.out (by simpa using hx) g2 ⟨ok, oA, oc, op, oB, od, oq, on, oa, ot⟩ rfl rfl HKK.out ⟨fun b i e => (HFAR.out.1 b i e).2.2.2.2, fun b i e => (HFAR.out.2 b i e).2.2.2.2⟩
end Go.Proofs.YtmcmicgdkdbgjaaDoor
