/- A node in which what a path leads to is other nodes: the document's With walked. Printed by gen_infd.py. -/
import Derived.Test.YtnlncamiaddhfaaInfX
import Derived.Test.YtnlncamiaddhfaaInfN
namespace Go.Proofs.Ytnlncamiaddhfaa
open Go.RowKit
attribute [local go_sem ↓] Go.wp_at_zero Go.wp_at_succ

/-- A walk's end by letters (a panic's does not look at the slots): no tactic tries its hand at the return before it is asked to. -/
def Ends (QP : List PanicEntry → World → Prop) (QR : Exit → Act → World → Prop) : Exit → Act → World → Prop
  | .panic c, a, w => a.defers = [] ∧ QP c w
  | ex, a, w => QR ex a w
theorem wp_end {P : Program} {fn : Func} {R : Ending → World → Prop} {c : Code} {a : Act} {w : World} (h : ∀ QP QR, Hid (∀ ex a' w', bodyPost P fn R ex a' w' → Ends QP QR ex a' w') → Code.wp P c (Ends QP QR) a w) : Code.wp P c (bodyPost P fn R) a w := by
  have e : Ends (fun ch w => R (.panicked ch) w) (bodyPost P fn R) = bodyPost P fn R := by
    funext ex a w
    cases ex <;> rfl
  have h2 := h (fun ch w => R (.panicked ch) w) (bodyPost P fn R) (by unfold Hid; rw [e]; exact fun _ _ _ h => h)
  rw [e] at h2
  exact h2
theorem wp_namedD {P : Program} {c : Code} {Q : Exit → Act → World → Prop} {a : Act} {w : World} (h : ∀ w', w' = w → Code.wp P c Q a w') : Code.wp P c Q a w := h w rfl
theorem own_setq {w : World} {base : Nat} {e : TypeId} {g q N c : Nat} {O : List Nd} (h : w.ownsRow base e 9 (.slice (some ⟨g, 0, none⟩) N c) N (O.flatMap Nd.cells)) (hq : q < O.length) (v0 v1 v2 v3 v4 v5 v6 v7 v8 : Value) (y : Nd)
    (hy : y.cells = [v0, v1, v2, v3, v4, v5, v6, v7, v8]) :
    (set9 w g q v0 v1 v2 v3 v4 v5 v6 v7 v8).ownsRow base e 9 (.slice (some ⟨g, 0, none⟩) N c) N ((O.take q ++ [y] ++ O.drop (q + 1)).flatMap Nd.cells) := by
  have h0 := (h.stored (q * 9) v0).1
  have h1 := (h0.stored (q * 9 + 1) v1).1
  have h2 := (h1.stored (q * 9 + 2) v2).1
  have h3 := (h2.stored (q * 9 + 3) v3).1
  have h4 := (h3.stored (q * 9 + 4) v4).1
  have h5 := (h4.stored (q * 9 + 5) v5).1
  have h6 := (h5.stored (q * 9 + 6) v6).1
  have h7 := (h6.stored (q * 9 + 7) v7).1
  have h8 := (h7.stored (q * 9 + 8) v8).1
  clear h0 h1 h2 h3 h4 h5 h6 h7
  have e1 : O.flatMap Nd.cells = (O.take q).flatMap Nd.cells ++ (O[q].cells ++ (O.drop (q + 1)).flatMap Nd.cells) := by
    conv => lhs; rw [← List.take_append_drop q O, List.drop_eq_getElem_cons hq]
    rw [List.flatMap_append, List.flatMap_cons]
  have e2 : ((O.take q).flatMap Nd.cells).length = q * 9 := by
    rw [flat_len Nd.cells_len, List.length_take, Nat.min_eq_left (by omega)]
  obtain ⟨a0, a1, a2, a3, a4, a5, a6, a7, a8, ha⟩ : ∃ a0 a1 a2 a3 a4 a5 a6 a7 a8, O[q].cells = [a0, a1, a2, a3, a4, a5, a6, a7, a8] := by
    generalize O[q] = z
    cases z
    exact ⟨_, _, _, _, _, _, _, _, _, rfl⟩
  have e3 : (O.take q ++ [y] ++ O.drop (q + 1)).flatMap Nd.cells = (O.take q).flatMap Nd.cells ++ ([v0, v1, v2, v3, v4, v5, v6, v7, v8] ++ (O.drop (q + 1)).flatMap Nd.cells) := by
    rw [List.flatMap_append, List.flatMap_append, List.append_assoc]
    simp [hy]
  rw [e1, ha] at h8
  generalize (O.take q).flatMap Nd.cells = X at h8 e2 e3
  rw [e3]
  generalize (O.drop (q + 1)).flatMap Nd.cells = Y at h8
  have e4 : ∀ (l : List Value) (j : Nat) (v : Value), (X ++ l).set (q * 9 + j) v = X ++ l.set j v := fun l j v => by
    rw [List.set_append_right _ _ (by omega), e2, Nat.add_sub_cancel_left]
  have e5 : ∀ (l : List Value) (v : Value), (X ++ l).set (q * 9) v = X ++ l.set 0 v := fun l v => e4 l 0 v
  rw [e5, e4, e4, e4, e4, e4, e4, e4, e4] at h8
  exact h8
/-- What is answered: the node with other kids. -/
theorem with_post {w W : World} {B g2 Wz : Nat} {k : Int} {n : Nm} {bA : Option Addr} {bn bc : Nat} {bs : List Bd} {aA : Option Addr} {an ac : Nat} {al : List Att} {t g : ByteArray} {FA : Option Addr} {fn fc : Nat} {FL : List Nd} {o : Option Tr}
    (hb : Sl W 2 bA bn bc (bs.flatMap Bd.cells)) (ha : Sl W 5 aA an ac (al.flatMap Att.cells)) (hbo : ∀ b o, 0 < bn → bA = some ⟨b, o, none⟩ → b < B) (hao : ∀ b o, 0 < an → aA = some ⟨b, o, none⟩ → b < B)
    (hB : B ≤ w.heap.size) (hg2 : w.heap.size ≤ g2) (hgz : g2 < Wz) (kW : Kept w W) (hF : Nds W FA fn fc FL) (hFo : ∀ x ∈ FL, x.out (fun b => b < B ∨ Wz ≤ b)) (hFl : ∀ b o, 0 < fn → FA = some ⟨b, o, none⟩ → Wz ≤ b)
    (ho : o = some (.mk k n bs al t g (FL.map Nd.tr))) :
    WithOf o B w (.returned (.tuple #[.agg #[.int .i64 k, .string n.u, .string n.l, .string n.p, .slice bA bn bc, .slice aA an ac, .string t, .string g, .slice FA fn fc], .bool true])) (setB9 W g2 (.int .i64 k) (.string n.u) (.string n.l) (.string n.p) (.slice bA bn bc) (.slice aA an ac) (.string t) (.string g) (.slice FA fn fc)) := by
  have gz := grown_setB9 W g2 (.int .i64 k) (.string n.u) (.string n.l) (.string n.p) (.slice bA bn bc) (.slice aA an ac) (.string t) (.string g) (.slice FA fn fc)
  have kz := kept_setB9 kW hg2 (.int .i64 k) (.string n.u) (.string n.l) (.string n.p) (.slice bA bn bc) (.slice aA an ac) (.string t) (.string g) (.slice FA fn fc)
  generalize setB9 W g2 (.int .i64 k) (.string n.u) (.string n.l) (.string n.p) (.slice bA bn bc) (.slice aA an ac) (.string t) (.string g) (.slice FA fn fc) = W' at gz kz ⊢
  have far : ∀ x : Nd, x.out (fun b => b < B ∨ Wz ≤ b) → x.ok W → x.ok W' := fun x h1 h2 => h2.grown gz (h1.mono (fun b hb => by
    intro e
    injection e with e
    omega))
  have hb2 := hb.grown0 gz (fun b o hn e => by
    have := hbo b o hn e
    intro e'
    injection e' with e'
    omega)
  have ha2 := ha.grown0 gz (fun b o hn e => by
    have := hao b o hn e
    intro e'
    injection e' with e'
    omega)
  have hk2 := hF.1.grown0 gz (fun b o hn e => by
    have := hFl b o hn e
    intro e'
    injection e' with e'
    omega)
  refine ⟨Nd.mk k n bA bn bc bs aA an ac al t g FA fn fc FL, true, rfl, .mk hb2 ha2 hk2 (fun x hx => far x (hFo x hx) (hF.2 x hx)), .inl ⟨by rw [ho, Nd.tr_mk], rfl⟩, kz, .mk ?_ ?_ ?_ ?_⟩
  · intro b o hn e
    exact .inl (hbo b o hn e)
  · intro b o hn e
    exact .inl (hao b o hn e)
  · intro b o hn e
    have := hFl b o hn e
    exact .inr (by omega)
  · intro x hx
    exact (hFo x hx).mono (fun b hb => by omega)
/-- What is answered where there is nothing. -/
theorem with_nothing {w W : World} {B g2 : Nat} {o : Option Tr} (hg2 : w.heap.size ≤ g2) (kW : Kept w W) (ho : o = none) :
    WithOf o B w (.returned (.tuple #[.agg #[.int .i64 0, .string ⟨#[]⟩, .string ⟨#[]⟩, .string ⟨#[]⟩, .slice none 0 0, .slice none 0 0, .string ⟨#[]⟩, .string ⟨#[]⟩, .slice none 0 0], .bool false])) (setB9 W g2 (.int .i64 0) (.string ⟨#[]⟩) (.string ⟨#[]⟩) (.string ⟨#[]⟩) (.slice none 0 0) (.slice none 0 0) (.string ⟨#[]⟩) (.string ⟨#[]⟩) (.slice none 0 0)) :=
  ⟨Nd.none_, false, rfl, Nd.none_ok _, .inr ⟨ho, rfl, rfl⟩, kept_setB9 kW hg2 (.int .i64 0) (.string ⟨#[]⟩) (.string ⟨#[]⟩) (.string ⟨#[]⟩) (.slice none 0 0) (.slice none 0 0) (.string ⟨#[]⟩) (.string ⟨#[]⟩) (.slice none 0 0), Nd.none_out _⟩
set_option maxHeartbeats 8000000 in
theorem rwith_any (x : Nd) : ∀ (LA : Option Addr) (ln lc : Nat) (l : List Nd) (PA : Option Addr) (pn pc : Nat) (ps : List Int) (B : Nat) (w : World), ps ≠ [] → x.out (fun b => b < B) → (∀ y ∈ l, y.out (fun b => b < B)) → B ≤ w.heap.size → x.ok w → Small x.tr → Txts 140737488355328 x.tr → Nds w LA ln lc l → ln ≤ 100 → (∀ y ∈ l, Txts 140737488355328 y.tr) →
    Sl w 1 PA pn pc (ps.map (Value.int .i64)) → (∀ z ∈ ps, -9223372036854775808 ≤ z ∧ z ≤ 9223372036854775807) →
    Calls Try.prog 23 #[x.val, .slice LA ln lc, .slice PA pn pc] w fun e w' => WithOf (withT x.tr (l.map Nd.tr) ps) B w e w' := by
  induction x using Nd.ind with
  | h k n bA bn bc bs aA an ac al t g kA kn kc ks ih =>
  intro LA ln lc l PA pn pc ps B w hps0 hxo hlo hB hok hsm htx hl hln hlt hp hpb
  obtain ⟨s, ps, rfl⟩ : ∃ s t, ps = s :: t := by
    cases ps with
    | nil => exact absurd rfl hps0
    | cons s t => exact ⟨s, t, rfl⟩
  obtain ⟨hb, ha, h, hks⟩ := hok.parts
  have hkN : Nds w kA kn kc ks := ⟨h, hks⟩
  have IH := Lib.hid ih
  have HOK := Lib.hid (show _ ∧ _ from ⟨hsm, htx⟩)
  have HXO := Lib.hid hxo.parts
  have HLO := Lib.hid hlo
  have HLT := Lib.hid hlt
  have HPB := Lib.hid hpb
  have hpl := hp.llen1
  have HPL := Lib.hid hpl
  have hpc := hp.cap
  have hpm := hp.max
  have hkc := h.cap
  have hkm := h.max
  have hL := h.llen Nd.cells_len (by omega)
  have hk100 : kn ≤ 100 := by
    rw [Nd.tr_mk] at hsm
    cases hsm with
    | mk h1 h2 h3 h4 => rw [List.length_map, hL] at h3; exact h3
  have HL := Lib.hid hL
  have hlL := hl.len
  clear ih hok hsm htx hlt hpb hL hxo hlo hps0
  obtain ⟨o, ho⟩ : ∃ o, withT (Nd.mk k n bA bn bc bs aA an ac al t g kA kn kc ks).tr (l.map Nd.tr) (s :: ps) = o := ⟨_, rfl⟩
  rw [ho]
  have HO := Lib.hid ho
  clear ho
  show Calls Try.prog 23 #[.agg #[.int .i64 k, .string n.u, .string n.l, .string n.p, .slice bA bn bc, .slice aA an ac, .string t, .string g, .slice kA kn kc], .slice LA ln lc, .slice PA pn pc] w _
  have k1 := ((Kept.refl w).alloc (.cells (ndc k n bA bn bc aA an ac t g kA kn kc) 28)).alloc (.cells znd 28)
  have b1 := (Blk.new w (ndc k n bA bn bc aA an ac t g kA kn kc) 28).alloc (.cells znd 28)
  have z1 := Blk.new (w.alloc (.cells (ndc k n bA bn bc aA an ac t g kA kn kc) 28)) znd 28
  go_enter Try.func23, Try.ntmps23
  refine wp_end ?_
  intro QP QR HQE
  let FT : Exit → Act → World → Prop := bodyPost Try.prog Try.f23 (fun _ _ => True)
  go_upto_region 1 with fail
  have s1 : ((w.alloc (.cells (ndc k n bA bn bc aA an ac t g kA kn kc) 28)).alloc (.cells znd 28)).heap.size = w.heap.size + 1 + 1 := by simp
  generalize (w.alloc (.cells (ndc k n bA bn bc aA an ac t g kA kn kc) 28)).alloc (.cells znd 28) = w1 at k1 b1 z1 s1 ⊢
  have z1' : Blk w1 (w.heap.size + 1) znd 28 := by simpa using z1
  clear z1
  obtain ⟨g1, hg1⟩ : ∃ g1, w.heap.size = g1 := ⟨_, rfl⟩
  obtain ⟨g2, hg2⟩ : ∃ g2, w.heap.size + 1 = g2 := ⟨_, rfl⟩
  rw [hg2] at z1' ⊢
  rw [hg1] at b1 ⊢
  have hw1 : w.heap.size ≤ g1 := by omega
  have hw2 : w.heap.size ≤ g2 := by omega
  have h12 : g1 ≠ g2 := by omega
  have g1l := b1.lt
  have g2l := z1'.lt
  obtain ⟨Wz, hWz⟩ : ∃ z, w1.heap.size = z := ⟨_, rfl⟩
  have HWZ := Lib.hid hWz
  rw [hWz] at g1l g2l s1
  have hWg : Wz = g2 + 1 := by omega
  clear hg1 hg2 hWz s1
  obtain ⟨pb, po, s', rfl, hs', p0, hpb'⟩ := hp.oneb (k := 0) (by have := hpl; simp at this; omega)
  have hs'' : s' = s := by simpa using hs'.symm
  subst hs''
  have hp1 : 0 < pn := by have := hpl; simp at this; omega
  have p0' : w1.cell? ⟨pb, po, none⟩ = some (.int .i64 s') := k1.cell p0
  have hsb := HPB.out s' (by simp)
  have HKD := Lib.hid (fun w' (kk : Kept w w') => rkid_any k n bA bn bc aA an ac t g kA kn kc ks s' w' (hkN.kept kk) (by omega) hsb)
  obtain ⟨oq, hoq⟩ : ∃ oq, kidT (ks.map Nd.tr) s' = oq := ⟨_, rfl⟩
  rw [hoq] at HKD
  have HQ := Lib.hid hoq
  have bf := b1.cell
  have c0 : w1.cell? ⟨g1, 0, none⟩ = some (.int .i64 k) := bf 0
  have c1 : w1.cell? ⟨g1, 1, none⟩ = some (.string n.u) := bf 1
  have c2 : w1.cell? ⟨g1, 2, none⟩ = some (.string n.l) := bf 2
  have c3 : w1.cell? ⟨g1, 3, none⟩ = some (.string n.p) := bf 3
  have c4 : w1.cell? ⟨g1, 4, none⟩ = some (.slice bA bn bc) := bf 4
  have c5 : w1.cell? ⟨g1, 5, none⟩ = some (.slice aA an ac) := bf 5
  have c6 : w1.cell? ⟨g1, 6, none⟩ = some (.string t) := bf 6
  have c7 : w1.cell? ⟨g1, 7, none⟩ = some (.string g) := bf 7
  have c8 : w1.cell? ⟨g1, 8, none⟩ = some (.slice kA kn kc) := bf 8
  clear hoq bf hs' hpl hsb

  have MK : Hid (∀ w', Kept w1 w' → w'.cell? ⟨g1, 0, none⟩ = some (.int .i64 k) ∧ w'.cell? ⟨g1, 1, none⟩ = some (.string n.u) ∧ w'.cell? ⟨g1, 2, none⟩ = some (.string n.l) ∧ w'.cell? ⟨g1, 3, none⟩ = some (.string n.p) ∧ w'.cell? ⟨g1, 4, none⟩ = some (.slice bA bn bc) ∧ w'.cell? ⟨g1, 5, none⟩ = some (.slice aA an ac) ∧ w'.cell? ⟨g1, 6, none⟩ = some (.string t) ∧ w'.cell? ⟨g1, 7, none⟩ = some (.string g) ∧ w'.cell? ⟨g1, 8, none⟩ = some (.slice kA kn kc) ∧ w'.cell? ⟨pb, po, none⟩ = some (.int .i64 s')) :=
    fun w' kk => ⟨kk.cell c0, kk.cell c1, kk.cell c2, kk.cell c3, kk.cell c4, kk.cell c5, kk.cell c6, kk.cell c7, kk.cell c8, kk.cell p0'⟩
  go_region_held3 (fun w' => w'.cell? ⟨g1, 0, none⟩ = some (.int .i64 k) ∧ w'.cell? ⟨g1, 1, none⟩ = some (.string n.u) ∧ w'.cell? ⟨g1, 2, none⟩ = some (.string n.l) ∧ w'.cell? ⟨g1, 3, none⟩ = some (.string n.p) ∧ w'.cell? ⟨g1, 4, none⟩ = some (.slice bA bn bc) ∧ w'.cell? ⟨g1, 5, none⟩ = some (.slice aA an ac) ∧ w'.cell? ⟨g1, 6, none⟩ = some (.string t) ∧ w'.cell? ⟨g1, 7, none⟩ = some (.string g) ∧ w'.cell? ⟨g1, 8, none⟩ = some (.slice kA kn kc) ∧ w'.cell? ⟨pb, po, none⟩ = some (.int .i64 s'))
    (first | (with_reducible exact MK.out _ (Kept.refl w1).drew) | (with_reducible exact MK.out _ (Kept.trans (Kept.refl w1).drew hk4)))
    (first | (go_at_call 20; refine (HKD.out _ k1.drew).mono ?_; rintro e w4 ⟨rfl, hk4⟩))
  have k14 : Kept w1 w4 := Kept.trans (Kept.refl w1).drew hk4
  have K4 : Kept w w4 := k1.trans k14
  have hz4 : Wz ≤ w4.heap.size := by
    have h1 := HWZ.out
    have h2 := k14.size
    omega
  have b4 := b1.kept k14
  have z4' := z1'.kept k14
  clear c0 c1 c2 c3 c4 c5 c6 c7 c8 p0' b1 k1 HKD hk4 MK k14 z1'
  have hO1 : o = withQ (Tr.mk k n bs al t g (ks.map Nd.tr)) (l.map Nd.tr) ps oq := by
    rw [← HO.out, Nd.tr_mk, withT_cons]
    show withQ _ _ _ (kidT (ks.map Nd.tr) s') = _
    rw [HQ.out]
  have HO1 := Lib.hid hO1
  clear hO1
  cases oq with
  | none =>
    simp only [kidI]
    obtain ⟨z0, z1, z2, z3, z4, z5, z6, z7, z8, zf, zl⟩ := blk_znd z4'
    have HP := Lib.hid (with_nothing (B := B) hw2 K4 HO1.out)
    have bz := blk_setB9 z4' (.int .i64 0) (.string ⟨#[]⟩) (.string ⟨#[]⟩) (.string ⟨#[]⟩) (.slice none 0 0) (.slice none 0 0) (.string ⟨#[]⟩) (.string ⟨#[]⟩) (.slice none 0 0)
    go_wp2_with fail
    change Ends QP QR _ _ (setB9 w4 g2 (.int .i64 0) (.string ⟨#[]⟩) (.string ⟨#[]⟩) (.string ⟨#[]⟩) (.slice none 0 0) (.slice none 0 0) (.string ⟨#[]⟩) (.string ⟨#[]⟩) (.slice none 0 0))
    generalize setB9 w4 g2 (.int .i64 0) (.string ⟨#[]⟩) (.string ⟨#[]⟩) (.string ⟨#[]⟩) (.slice none 0 0) (.slice none 0 0) (.string ⟨#[]⟩) (.string ⟨#[]⟩) (.slice none 0 0) = WE at bz HP ⊢
    have cz := bz.cell
    have d0 := cz 0
    have d1 := cz 1
    have d2 := cz 2
    have d3 := cz 3
    have d4 := cz 4
    have d5 := cz 5
    have d6 := cz 6
    have d7 := cz 7
    have d8 := cz 8
    refine HQE.out _ _ _ ?_
    exact bodyPost_ret (v := .tuple #[.agg #[.int .i64 0, .string ⟨#[]⟩, .string ⟨#[]⟩, .string ⟨#[]⟩, .slice none 0 0, .slice none 0 0, .string ⟨#[]⟩, .string ⟨#[]⟩, .slice none 0 0], .bool false]) (by simp [results, Try.results23, go_sem, d0, d1, d2, d3, d4, d5, d6, d7, d8]) rfl HP.out
  | some q =>
  simp only [kidI]
  have hqk := (kid_bd HQ.out).1
  rw [List.length_map, HL.out] at hqk
  have l3 : (q : Int) < kn := by omega
  have l4 : (0 : Int) ≤ q := by omega
  have l5 : ¬ (q : Int) < 0 := by omega
  have hkN4 := hkN.kept K4
  have hlN4 := hl.kept K4
  have hcut1 := run_cut_h appT_rnd kA kn kc q (by omega)
  obtain ⟨C2, hC2⟩ : ∃ C2, cutA kA kc (q + 1) 9 = C2 := ⟨_, rfl⟩
  have hcut2 : ∀ wv : World, (Instr.slice 26 (.slice kA kn kc) (some (.int .i64 ((q : Int) + 1))) none none).run Try.prog wv = .ok (.slice C2 (kn - (q + 1)) (kc - (q + 1))) wv := by
    intro wv
    have h1 := run_cut_l appT_rnd kA kn kc (q + 1) (by omega) wv
    rw [hC2] at h1
    exact h1
  have hsum : IntKind.i64.wrap ((q : Int) + 1) = (q : Int) + 1 := IntWalk.i64_in _ (by omega)
  have hqc : (q : Int) ≤ kc := by omega
  have c8 : w4.cell? ⟨g1, 8, none⟩ = some (.slice kA kn kc) := b4.cell 8
  have g1l4 := b4.lt
  have PK : Hid (∀ W, Kept w4 W → Sl W 9 kA q kc ((ks.take q).flatMap Nd.cells) ∧ Sl W 9 LA ln lc (l.flatMap Nd.cells) ∧ Sl W 9 C2 (kn - (q + 1)) (kc - (q + 1)) ((ks.drop (q + 1)).flatMap Nd.cells)) := by
    intro W kk
    have hp3 := parts_with hkN4.1 hlN4.1 hqk kk
    rw [hC2] at hp3
    exact ⟨(hp3 ((kA, q, kc), (ks.take q).flatMap Nd.cells) (by simp)).1, (hp3 ((LA, ln, lc), l.flatMap Nd.cells) (by simp)).1, (hp3 ((C2, kn - (q + 1), kc - (q + 1)), (ks.drop (q + 1)).flatMap Nd.cells) (by simp)).1⟩
  clear hC2
  have hq100 : q ≤ 1000 := by omega
  have hln100 : ln ≤ 1000 := by omega
  have hkn1 : kn - (q + 1) ≤ 1000 := by omega
  go_upto_region 4 with fail
  have o0 := own_lit (w := w4) (base := w4.heap.size) (e := 28) (size := 9) (n := 0) (cs := []) (by rfl) (by omega) (Nat.le_refl _)
  have k0 := (Kept.refl w4).alloc (.cells #[] 28)
  obtain ⟨p1, _, _⟩ := PK.out _ k0
  go_upto_region 6 with (at_builtin; first
    | (refine wpList_appk w4 (by rfl) _ _ (by rfl) appT_rnd (by rfl) o0 k0 (by rfl) p1 ?_ ?_; (exact ⟨nds_one _, by omega⟩); (intro v5 w5 hown5 hk5 _ _; obtain ⟨_, p2, _⟩ := PK.out _ hk5))
    | (refine wpList_appk w4 (by rfl) _ _ (by rfl) appT_rnd (by rfl) hown5 hk5 (by rfl) p2 ?_ ?_; (exact ⟨nds_one _, by omega⟩); (intro v6 w6 hown6 hk6 _ _; obtain ⟨_, _, p3⟩ := PK.out _ hk6; have c86 := hk6.cell c8))
    | (refine wpList_appk w4 (by rfl) _ _ (by rfl) appT_rnd (by rfl) hown6 hk6 (by rfl) p3 ?_ ?_; (exact ⟨nds_one _, by omega⟩); (intro v7 w7 hown7 hk7 _ _)))
  clear o0 k0 p1 p2 hown5 hk5 hown6 hk6 p3 c86 c8
  obtain ⟨A7, c7, rfl, hS7⟩ := Sl.of_own hown7
  obtain ⟨FL, hFL⟩ : ∃ FL, ks.take q ++ l ++ ks.drop (q + 1) = FL := ⟨_, rfl⟩
  have hc7 : [] ++ List.flatMap Nd.cells (List.take q ks) ++ List.flatMap Nd.cells l ++ List.flatMap Nd.cells (List.drop (q + 1) ks) = FL.flatMap Nd.cells := by
    rw [← hFL, List.flatMap_append, List.flatMap_append, List.nil_append]
  rw [hc7] at hS7 hown7
  obtain ⟨N7, hN7⟩ : ∃ N, 0 + q + ln + (kn - (q + 1)) = N := ⟨_, rfl⟩
  rw [hN7] at hS7 hown7
  have hN7b : N7 ≤ 300 := by omega
  have K7 : Kept w w7 := K4.trans hk7
  have hz7 : Wz ≤ w7.heap.size := Nat.le_trans hz4 hk7.size
  have b7 := b4.kept hk7
  have z7 := z4'.kept hk7
  have hA7 : ∀ b o, 0 < N7 → A7 = some ⟨b, o, none⟩ → Wz ≤ b := fun b o hn e => by
    obtain ⟨g, hg, h1, _⟩ := own_form hown7 hn
    rw [hg] at e
    injection e with e
    injection e with e _
    omega
  have hkN7 := hkN.kept K7
  have hlN7 := hl.kept K7
  have HFL := Lib.hid hFL
  rw [hN7]
  clear hc7 hN7 hown7 hk7 b4 z4' hkN4 hlN4 PK hFL hcut1 hcut2 g1l4 hqc hsum
  by_cases hp1' : pn = 1
  · have hps : ps = [] := by
      have := HPL.out
      simp at this
      exact List.eq_nil_of_length_eq_zero (by omega)
    have hmem : ∀ x ∈ FL, x ∈ ks ∨ x ∈ l := by
      intro x hx
      rw [← HFL.out] at hx
      rcases List.mem_append.1 hx with hx | hx
      · rcases List.mem_append.1 hx with hx | hx
        · exact .inl (List.mem_of_mem_take hx)
        · exact .inr hx
      · exact .inl (List.mem_of_mem_drop hx)
    have hF7 : Nds w7 A7 N7 c7 FL := ⟨hS7, fun x hx => (hmem x hx).elim (hkN7.2 x) (hlN7.2 x)⟩
    have hFo : ∀ x ∈ FL, x.out (fun b => b < B ∨ Wz ≤ b) := fun x hx => by
      rcases hmem x hx with h1 | h1
      · exact (HXO.out.2.2.2 x h1).mono (fun b hb => .inl hb)
      · exact (HLO.out x h1).mono (fun b hb => .inl hb)
    have hFt : ∀ y ∈ FL, Txts 140737488355328 y.tr := fun x hx => by
      rcases hmem x hx with h1 | h1
      · have h2 := HOK.out.2
        rw [Nd.tr_mk] at h2
        cases h2 with
        | mk b1 b2 => exact b2 _ (List.mem_map.2 ⟨x, h1, rfl⟩)
      · exact HLT.out x h1
    have hsum2 : sumS (FL.map Nd.tr) ≤ 1152921504606846976 := by
      have h1 := txts_sum (b := 140737488355328) (l := FL.map Nd.tr) (by
        intro x hx
        obtain ⟨y, hy, rfl⟩ := List.mem_map.1 hx
        exact hFt y hy)
      have h2 := hF7.len
      rw [List.length_map, h2] at h1
      have h3 : N7 * 140737488355328 ≤ 300 * 140737488355328 := Nat.mul_le_mul_right _ hN7b
      omega
    have HM := Lib.hid (rmerged_any A7 N7 c7 FL w7 hF7 (by omega) hsum2)
    have hR : o = some (.mk k n bs al t g (mergedT (FL.map Nd.tr))) := by
      rw [HO1.out, hps, withQ_one, ← HFL.out, List.map_append, List.map_append, List.map_take, List.map_drop]
      rfl
    have HR := Lib.hid hR
    have l6 : (pn : Int) = 1 := by omega
    have g8 : w7.cell? ⟨g1, 8, none⟩ = some (.slice kA kn kc) := b7.cell 8
    have HFO := Lib.hid hFo
    clear hR hsum2 hFt hF7 hmem hFo
    go_wp2_with fail
    refine HM.out.mono ?_
    rintro e w9 ⟨MA, mn, mc, O, rfl, hN9, hO9, k9, horg, hlow9⟩
    have b9 := b7.kept k9
    have e8 : w9.cell? ⟨g1, 8, none⟩ = some (.slice kA kn kc) := b9.cell 8
    have bf9 := b9.frozen
    have bl9 := b9.lt
    have HRO : Hid (o = some (.mk k n bs al t g (O.map Nd.tr))) := by
      unfold Hid
      rw [HR.out, hO9]
    have hOo : ∀ x ∈ O, x.out (fun b => b < B ∨ Wz ≤ b) := by
      intro x hx
      rcases horg x hx with h1 | ⟨t', rfl⟩
      · exact HFO.out x h1
      · exact Nd.text_out _ _
    have hOl : ∀ b o, 0 < mn → MA = some ⟨b, o, none⟩ → Wz ≤ b := fun b o hn e => by
      have h1 := hlow9 b o hn e
      omega
    go_upto_region 8 with fail
    refine wp_namedD ?_
    intro w10 hw10
    have b10 : Blk w10 g1 (ndc k n bA bn bc aA an ac t g MA mn mc) 28 := by rw [hw10]; simpa using b9.set 8 (.slice MA mn mc)
    have z10 : Blk w10 g2 znd 28 := by rw [hw10]; exact (z7.kept k9).far (p := ⟨g1, 8, none⟩) (fun h' => h12 h'.symm) (.slice MA mn mc)
    have k10 : Kept w w10 := by rw [hw10]; exact (K7.trans k9).setCell (p := ⟨g1, 8, none⟩) hw1 (.slice MA mn mc)
    have hF10 : Nds w10 MA mn mc O := by
      rw [hw10]
      exact ⟨hN9.1.grown0 (grown_set1 w9 g1 8 _) (fun b o hn e => by
        have := hOl b o hn e
        intro e'
        injection e' with e'
        omega), fun x hx => (hN9.2 x hx).grown (grown_set1 w9 g1 8 _) ((hOo x hx).mono (fun b hb => by
        intro e
        injection e with e
        omega))⟩
    have HP := Lib.hid (with_post (hb.kept k10) (ha.kept k10) HXO.out.1 HXO.out.2.1 hB hw2 (by omega) k10 hF10 hOo hOl HRO.out)
    clear HM hO9 horg hlow9 hN9 b7 z7 k9 hw10 e8 bf9 bl9 b9 g8
    have fcl := b10.cell
    have f0 := fcl 0
    have f1 := fcl 1
    have f2 := fcl 2
    have f3 := fcl 3
    have f4 := fcl 4
    have f5 := fcl 5
    have f6 := fcl 6
    have f7 := fcl 7
    have f8 := fcl 8
    obtain ⟨z0, z1, z2, z3, z4, z5, z6, z7, z8, zf, zl⟩ := blk_znd z10
    go_wp2_with fail
    have bz := blk_setB9 z10 (.int .i64 k) (.string n.u) (.string n.l) (.string n.p) (.slice bA bn bc) (.slice aA an ac) (.string t) (.string g) (.slice MA mn mc)

    change Ends QP QR _ _ (setB9 w10 g2 (.int .i64 k) (.string n.u) (.string n.l) (.string n.p) (.slice bA bn bc) (.slice aA an ac) (.string t) (.string g) (.slice MA mn mc))
    generalize setB9 w10 g2 (.int .i64 k) (.string n.u) (.string n.l) (.string n.p) (.slice bA bn bc) (.slice aA an ac) (.string t) (.string g) (.slice MA mn mc) = WE at bz HP ⊢
    have cz := bz.cell
    have d0 := cz 0
    have d1 := cz 1
    have d2 := cz 2
    have d3 := cz 3
    have d4 := cz 4
    have d5 := cz 5
    have d6 := cz 6
    have d7 := cz 7
    have d8 := cz 8
    refine HQE.out _ _ _ ?_
    exact bodyPost_ret (v := .tuple #[.agg #[.int .i64 k, .string n.u, .string n.l, .string n.p, .slice bA bn bc, .slice aA an ac, .string t, .string g, .slice MA mn mc], .bool true]) (by simp [results, Try.results23, go_sem, d0, d1, d2, d3, d4, d5, d6, d7, d8]) rfl HP.out
  have hps : ps ≠ [] := by
    intro h0
    have := HPL.out
    rw [h0] at this
    simp at this
    omega
  have l6 : ¬ (pn : Int) = 1 := by omega
  obtain ⟨yb, yo, yk, yn, ybA, ybn, ybc, ybs, yaA, yan, yac, yal, yt, yg, ykA, ykn, ykc, yks, rfl, hy, y0, y1, y2, y3, y4, y5, y6, y7, y8, hyb⟩ := cells9 hkN7.1 (k := q) (by omega)

  have hyo := hkN7.2 _ (List.mem_of_getElem? hy)
  have hyt := map_get (f := Nd.tr) hy
  have hih := IH.out _ (List.mem_of_getElem? hy)
  have hst : Small (Nd.mk yk yn ybA ybn ybc ybs yaA yan yac yal yt yg ykA ykn ykc yks).tr ∧ Txts 140737488355328 (Nd.mk yk yn ybA ybn ybc ybs yaA yan yac yal yt yg ykA ykn ykc yks).tr := by
    have h1 := HOK.out
    rw [Nd.tr_mk] at h1
    obtain ⟨h1, h2⟩ := h1
    cases h1 with
    | mk a1 a2 a3 a4 =>
      cases h2 with
      | mk b1 b2 => exact ⟨a4 _ (List.mem_of_getElem? hyt), b2 _ (List.mem_of_getElem? hyt)⟩
  have HST := Lib.hid hst
  have HYT := Lib.hid hyt
  have hcut : ∀ wv : World, (Instr.slice 45 (.slice (some ⟨pb, po, none⟩) pn pc) (some (.int .i64 1)) none none).run Try.prog wv = .ok (.slice (cutA (some ⟨pb, po, none⟩) pc 1 1) (pn - 1) (pc - 1)) wv := run_cut_l appT_int (some ⟨pb, po, none⟩) pn pc 1 (by omega)
  have hpt := (hp.kept K7).from1 (i := 1) (by omega)
  obtain ⟨CA, hCA⟩ : ∃ CA, cutA (some ⟨pb, po, none⟩) pc 1 1 = CA := ⟨_, rfl⟩
  rw [hCA] at hcut hpt
  have hpt' : Sl w7 1 CA (pn - 1) (pc - 1) (ps.map (Value.int .i64)) := hpt
  have hlN := hl.kept K7
  have HPT := Lib.hid (show _ ∧ _ from ⟨hpt', hlN⟩)
  have HY0 := Lib.hid hy
  clear hst hyt hpt hpt' hlN hCA hy
  have c8 : w7.cell? ⟨g1, 8, none⟩ = some (.slice (some ⟨yb, yo, none⟩) kn kc) := b7.cell 8
  have q1 : (1 : Int) ≤ pn := by omega
  have MK : Hid (∀ w', Kept w7 w' → w'.cell? ⟨g1, 8, none⟩ = some (.slice (some ⟨yb, yo, none⟩) kn kc) ∧ w'.cell? ⟨yb, yo + q * 9, none⟩ = some (.int .i64 yk) ∧ w'.cell? ⟨yb, yo + q * 9 + 1, none⟩ = some (.string yn.u) ∧ w'.cell? ⟨yb, yo + q * 9 + 2, none⟩ = some (.string yn.l) ∧ w'.cell? ⟨yb, yo + q * 9 + 3, none⟩ = some (.string yn.p) ∧ w'.cell? ⟨yb, yo + q * 9 + 4, none⟩ = some (.slice ybA ybn ybc) ∧ w'.cell? ⟨yb, yo + q * 9 + 5, none⟩ = some (.slice yaA yan yac) ∧ w'.cell? ⟨yb, yo + q * 9 + 6, none⟩ = some (.string yt) ∧ w'.cell? ⟨yb, yo + q * 9 + 7, none⟩ = some (.string yg) ∧ w'.cell? ⟨yb, yo + q * 9 + 8, none⟩ = some (.slice ykA ykn ykc)) :=
    fun w' kk => ⟨kk.cell c8, kk.cell y0, kk.cell y1, kk.cell y2, kk.cell y3, kk.cell y4, kk.cell y5, kk.cell y6, kk.cell y7, kk.cell y8⟩
  have HYO := Lib.hid (show _ ∧ _ from ⟨hyo, HXO.out.2.2.2 _ (List.mem_of_getElem? HY0.out)⟩)
  clear hyo
  go_upto_region 9 with fail
  go_cut [10, 11] (fun p v wx => ∃ (y' : Nd) (is : Bool) (g5 : Nat), p = .pointer (some ⟨g5, 0, none⟩) ∧ v = .bool is ∧ Blk wx g5 y'.cells.toArray 28 ∧ y'.ok wx ∧ Hid ((withT (Nd.mk yk yn ybA ybn ybc ybs yaA yan yac yal yt yg ykA ykn ykc yks).tr (l.map Nd.tr) ps = some y'.tr ∧ is = true) ∨ (withT (Nd.mk yk yn ybA ybn ybc ybs yaA yan yac yal yt yg ykA ykn ykc yks).tr (l.map Nd.tr) ps = none ∧ is = false)) ∧ y'.out (fun b => b < B ∨ Wz ≤ b) ∧ Kept w7 wx)
  case first =>
    have HW : Hid (∀ w', Kept w7 w' → Calls Try.prog 23 #[.agg #[.int .i64 yk, .string yn.u, .string yn.l, .string yn.p, .slice ybA ybn ybc, .slice yaA yan yac, .string yt, .string yg, .slice ykA ykn ykc], .slice LA ln lc, .slice CA (pn - 1) (pc - 1)] w' fun e w'' =>
        ∃ zk zn zbA zbn zbc zbs zaA zan zac zal zt zg zkA zkn zkc zks is, e = .returned (.tuple #[.agg #[.int .i64 zk, .string (Nm.u zn), .string (Nm.l zn), .string (Nm.p zn), .slice zbA zbn zbc, .slice zaA zan zac, .string zt, .string zg, .slice zkA zkn zkc], .bool is]) ∧
          Hid ((Nd.mk zk zn zbA zbn zbc zbs zaA zan zac zal zt zg zkA zkn zkc zks).ok w'' ∧ ((withT (Nd.mk yk yn ybA ybn ybc ybs yaA yan yac yal yt yg ykA ykn ykc yks).tr (l.map Nd.tr) ps = some (Nd.mk zk zn zbA zbn zbc zbs zaA zan zac zal zt zg zkA zkn zkc zks).tr ∧ is = true) ∨ (withT (Nd.mk yk yn ybA ybn ybc ybs yaA yan yac yal yt yg ykA ykn ykc yks).tr (l.map Nd.tr) ps = none ∧ is = false)) ∧ (Nd.mk zk zn zbA zbn zbc zbs zaA zan zac zal zt zg zkA zkn zkc zks).out (fun b => b < B ∨ w'.heap.size ≤ b)) ∧ Kept w7 w'' ∧ Kept w' w'') := by
      intro w' kk
      refine (hih LA ln lc l CA (pn - 1) (pc - 1) ps B w' hps HYO.out.2 HLO.out (by have := K7.size; have := kk.size; omega) (HYO.out.1.kept kk) HST.out.1 HST.out.2 (HPT.out.2.kept kk) hln HLT.out (HPT.out.1.kept kk) (fun z hz => HPB.out z (List.mem_cons_of_mem _ hz))).mono ?_
      rintro e w6 ⟨y', is, rfl, yok, hy', hk6, hyo6⟩
      obtain ⟨zk, zn, zbA, zbn, zbc, zbs, zaA, zan, zac, zal, zt, zg, zkA, zkn, zkc, zks⟩ := y'
      exact ⟨zk, zn, zbA, zbn, zbc, zbs, zaA, zan, zac, zal, zt, zg, zkA, zkn, zkc, zks, is, rfl, ⟨yok, by rcases hy' with h1 | h1; exact .inl h1; exact .inr ⟨h1.1, h1.2.1⟩, hyo6⟩, kk.trans hk6, hk6⟩
    refine wp_region_held_drew (S := fun w' => w'.cell? ⟨g1, 8, none⟩ = some (.slice (some ⟨yb, yo, none⟩) kn kc) ∧ w'.cell? ⟨yb, yo + q * 9, none⟩ = some (.int .i64 yk) ∧ w'.cell? ⟨yb, yo + q * 9 + 1, none⟩ = some (.string yn.u) ∧ w'.cell? ⟨yb, yo + q * 9 + 2, none⟩ = some (.string yn.l) ∧ w'.cell? ⟨yb, yo + q * 9 + 3, none⟩ = some (.string yn.p) ∧ w'.cell? ⟨yb, yo + q * 9 + 4, none⟩ = some (.slice ybA ybn ybc) ∧ w'.cell? ⟨yb, yo + q * 9 + 5, none⟩ = some (.slice yaA yan yac) ∧ w'.cell? ⟨yb, yo + q * 9 + 6, none⟩ = some (.string yt) ∧ w'.cell? ⟨yb, yo + q * 9 + 7, none⟩ = some (.string yg) ∧ w'.cell? ⟨yb, yo + q * 9 + 8, none⟩ = some (.slice ykA ykn ykc)) (by kernel_rfl) (MK.out _ (Kept.refl w7).drew) (fun hHeld => ?_)
    skip
    refine wpAnyH_take (i := 0) (oi := { dst := some 44, op := Op.fieldAddr 28 (Operand.tmp 3) 6, type := 0, pos := "ref.go:139", after := #[], guard := none }) (v := ?vvw1) rfl (by kernel_rfl) (by kernel_rfl) (by kernel_rfl) (fun _ _ _ h => h) (Or.inl ⟨by rfl, ?hyw1⟩) (by assumption) ?restw1
    case hyw1 => (intro wS hSw; (try dsimp only at hSw); (repeat (obtain ⟨_, hSw⟩ := hSw)); go_simp; try (with_reducible rfl))
    try simp only [Act.put, List.setIfInBounds_toArray, List.set_cons_zero, List.set_cons_succ]
    refine wpAnyH_take (i := 1) (oi := { dst := some 45, op := Op.load 26 (Operand.tmp 44), type := 26, pos := "ref.go:139", after := #[{ on := 0, ground := Ground.data }], guard := none }) (v := ?vvw2) rfl (by kernel_rfl) (by kernel_rfl) (by kernel_rfl) (fun _ _ _ h => h) (Or.inl ⟨by rfl, ?hyw2⟩) (by assumption) ?restw2
    case hyw2 => (intro wS hSw; (try dsimp only at hSw); (repeat (obtain ⟨_, hSw⟩ := hSw)); go_simp; try (with_reducible rfl))
    try simp only [Act.put, List.setIfInBounds_toArray, List.set_cons_zero, List.set_cons_succ]
    refine wpAnyH_take (i := 2) (oi := { dst := some 46, op := Op.move (Operand.tmp 8), type := 3, pos := "ref.go:139", after := #[], guard := none }) (v := ?vvw3) rfl (by kernel_rfl) (by kernel_rfl) (by kernel_rfl) (fun _ _ _ h => h) (Or.inl ⟨by rfl, ?hyw3⟩) (by assumption) ?restw3
    case hyw3 => (intro wS hSw; (try dsimp only at hSw); (repeat (obtain ⟨_, hSw⟩ := hSw)); go_simp; try (with_reducible rfl))
    try simp only [Act.put, List.setIfInBounds_toArray, List.set_cons_zero, List.set_cons_succ]
    refine wpAnyH_take (i := 3) (oi := { dst := some 47, op := Op.indexAddr 26 (Operand.tmp 45) (Operand.tmp 46), type := 0, pos := "ref.go:139", after := #[{ on := 1, ground := Ground.data }, { on := 2, ground := Ground.data }], guard := none }) (v := ?vvw4) rfl (by kernel_rfl) (by kernel_rfl) (by kernel_rfl) (fun _ _ _ h => h) (Or.inl ⟨by rfl, ?hyw4⟩) (by assumption) ?restw4
    case hyw4 => (intro wS hSw; (try dsimp only at hSw); (repeat (obtain ⟨_, hSw⟩ := hSw)); go_simp; try (with_reducible rfl))
    try simp only [Act.put, List.setIfInBounds_toArray, List.set_cons_zero, List.set_cons_succ]
    refine wpAnyH_take (i := 4) (oi := { dst := some 48, op := Op.load 28 (Operand.tmp 47), type := 28, pos := "ref.go:139", after := #[{ on := 3, ground := Ground.data }], guard := none }) (v := ?vvw5) rfl (by kernel_rfl) (by kernel_rfl) (by kernel_rfl) (fun _ _ _ h => h) (Or.inl ⟨by rfl, ?hyw5⟩) (by assumption) ?restw5
    case hyw5 => (intro wS hSw; (try dsimp only at hSw); (repeat (obtain ⟨_, hSw⟩ := hSw)); go_simp; try (with_reducible rfl))
    try simp only [Act.put, List.setIfInBounds_toArray, List.set_cons_zero, List.set_cons_succ]
    refine wpAnyH_take (i := 5) (oi := { dst := some 49, op := Op.move (Operand.tmp 1), type := 26, pos := "ref.go:139", after := #[], guard := none }) (v := ?vvw6) rfl (by kernel_rfl) (by kernel_rfl) (by kernel_rfl) (fun _ _ _ h => h) (Or.inl ⟨by rfl, ?hyw6⟩) (by assumption) ?restw6
    case hyw6 => (intro wS hSw; (try dsimp only at hSw); (repeat (obtain ⟨_, hSw⟩ := hSw)); go_simp; try (with_reducible rfl))
    try simp only [Act.put, List.setIfInBounds_toArray, List.set_cons_zero, List.set_cons_succ]
    refine wpAnyH_take (i := 6) (oi := { dst := some 50, op := Op.move (Operand.tmp 2), type := 45, pos := "ref.go:139", after := #[], guard := none }) (v := ?vvw7) rfl (by kernel_rfl) (by kernel_rfl) (by kernel_rfl) (fun _ _ _ h => h) (Or.inl ⟨by rfl, ?hyw7⟩) (by assumption) ?restw7
    case hyw7 => (intro wS hSw; (try dsimp only at hSw); (repeat (obtain ⟨_, hSw⟩ := hSw)); go_simp; try (with_reducible rfl))
    try simp only [Act.put, List.setIfInBounds_toArray, List.set_cons_zero, List.set_cons_succ]
    refine wpAnyH_take (i := 7) (oi := { dst := some 51, op := Op.slice 45 (Operand.tmp 50) (some (Operand.const (Value.int IntKind.i64 1))) none none, type := 45, pos := "ref.go:139", after := #[{ on := 6, ground := Ground.data }], guard := none }) (v := ?vvw8) rfl (by kernel_rfl) (by kernel_rfl) (by kernel_rfl) (fun _ _ _ h => h) (Or.inl ⟨by rfl, ?hyw8⟩) (by assumption) ?restw8
    case hyw8 => (intro wS hSw; (try dsimp only at hSw); (repeat (obtain ⟨_, hSw⟩ := hSw)); go_simp; try (with_reducible rfl))
    try simp only [Act.put, List.setIfInBounds_toArray, List.set_cons_zero, List.set_cons_succ]
    refine wpAnyH_ready (rs := [8, 12]) (by kernel_rfl) (by simp) ?_
    refine AllReadyH.cons (o := { dst := some 52, op := Op.call { callee := Callee.value (Operand.func 23), args := #[Operand.tmp 48, Operand.tmp 49, Operand.tmp 51], argTypes := #[28, 26, 45] }, type := 49, pos := "ref.go:139", after := #[{ on := 4, ground := Ground.data }, { on := 5, ground := Ground.data }, { on := 7, ground := Ground.data }], guard := none }) rfl (fun K hK => ?stepw9) ?morew9
    case stepw9 =>
      go_simp
      go_at_call 23
      refine (HW.out _ (Kept.refl w7).drew).mono ?_
      rintro e w6 ⟨zk, zn, zbA, zbn, zbc, zbs, zaA, zan, zac, zal, zt, zg, zkA, zkn, zkc, zks, is, rfl, hz6, kw6, hk6⟩
      go_wp2_with fail
      refine hK.out _ _ (by refine MK.out _ ?_; repeat (first | (with_reducible exact Kept.refl _) | (with_reducible exact kw6) | (with_reducible refine Kept.drew ?_) | (with_reducible refine Kept.alloc ?_ _) | (with_reducible refine Kept.setCell ?_ (by first | exact Nat.le_refl _ | exact kw6.size) _))) (fun hHeld => ?_)
      clear hK K
      try simp only [Act.put, List.setIfInBounds_toArray, List.set_cons_zero, List.set_cons_succ]
      refine wpAnyH_take (i := 9) (oi := { dst := some 43, op := Op.move (Operand.tmp 52), type := 49, pos := "ref.go:139", after := #[{ on := 8, ground := Ground.data }], guard := none }) (v := ?vvw10) rfl (by kernel_rfl) (by kernel_rfl) (by kernel_rfl) (fun _ _ _ h => h) (Or.inl ⟨by rfl, ?hyw10⟩) (by assumption) ?restw10
      case hyw10 => (intro wS hSw; (try dsimp only at hSw); (repeat (obtain ⟨_, hSw⟩ := hSw)); go_simp; try (with_reducible rfl))
      try simp only [Act.put, List.setIfInBounds_toArray, List.set_cons_zero, List.set_cons_succ]
      refine wpAnyH_take (i := 10) (oi := { dst := some 53, op := Op.extract (Operand.tmp 43) 0, type := 28, pos := "ref.go:139", after := #[{ on := 9, ground := Ground.data }], guard := none }) (v := ?vvw11) rfl (by kernel_rfl) (by kernel_rfl) (by kernel_rfl) (fun _ _ _ h => h) (Or.inl ⟨by rfl, ?hyw11⟩) (by assumption) ?restw11
      case hyw11 => (intro wS hSw; (try dsimp only at hSw); (repeat (obtain ⟨_, hSw⟩ := hSw)); go_simp; try (with_reducible rfl))
      try simp only [Act.put, List.setIfInBounds_toArray, List.set_cons_zero, List.set_cons_succ]
      refine wpAnyH_take (i := 11) (oi := { dst := some 54, op := Op.extract (Operand.tmp 43) 1, type := 4, pos := "ref.go:139", after := #[{ on := 9, ground := Ground.data }, { on := 13, ground := Ground.gcOnly Departure.lateStores }], guard := none }) (v := ?vvw12) rfl (by kernel_rfl) (by kernel_rfl) (by kernel_rfl) (fun _ _ _ h => h) (Or.inl ⟨by rfl, ?hyw12⟩) (by assumption) ?restw12
      case hyw12 => (intro wS hSw; (try dsimp only at hSw); (repeat (obtain ⟨_, hSw⟩ := hSw)); go_simp; try (with_reducible rfl))
      try simp only [Act.put, List.setIfInBounds_toArray, List.set_cons_zero, List.set_cons_succ]
      refine wpAnyH_ready (rs := [12]) (by kernel_rfl) (by simp) ?_
      refine AllReadyH.cons (o := { dst := some 10, op := Op.alloc 28, type := 0, pos := "ref.go:139", after := #[], guard := none }) rfl (fun K hK => ?stepw13) ?morew13
      case stepw13 =>
        go_simp
        refine hK.out _ _ (by refine MK.out _ ?_; repeat (first | (with_reducible exact Kept.refl _) | (with_reducible exact kw6) | (with_reducible refine Kept.drew ?_) | (with_reducible refine Kept.alloc ?_ _) | (with_reducible refine Kept.setCell ?_ (by first | exact Nat.le_refl _ | exact kw6.size) _))) (fun hHeld => ?_)
        clear hK K
        try simp only [Act.put, List.setIfInBounds_toArray, List.set_cons_zero, List.set_cons_succ]
        refine wpAnyH_ready (rs := [13]) (by kernel_rfl) (by simp) ?_
        refine AllReadyH.cons (o := { dst := none, op := Op.store 28 (Operand.tmp 10) (Operand.tmp 53), type := 0, pos := "ref.go:139", after := #[{ on := 12, ground := Ground.data }, { on := 10, ground := Ground.data }, { on := 8, ground := Ground.chain }, { on := 0, ground := Ground.phase }, { on := 1, ground := Ground.phase }, { on := 2, ground := Ground.phase }, { on := 3, ground := Ground.phase }, { on := 4, ground := Ground.phase }, { on := 5, ground := Ground.phase }, { on := 6, ground := Ground.phase }, { on := 7, ground := Ground.phase }, { on := 8, ground := Ground.phase }, { on := 9, ground := Ground.phase }, { on := 10, ground := Ground.phase }, { on := 11, ground := Ground.textOnly Departure.lateStores }, { on := 12, ground := Ground.phase }], guard := none }) rfl (fun K hK => ?stepw14) ?morew14
        case stepw14 =>
          go_simp
          refine hK.out _ _ (by refine MK.out _ ?_; repeat (first | (with_reducible exact Kept.refl _) | (with_reducible exact kw6) | (with_reducible refine Kept.drew ?_) | (with_reducible refine Kept.alloc ?_ _) | (with_reducible refine Kept.setCell ?_ (by first | exact Nat.le_refl _ | exact kw6.size) _))) (fun hHeld => ?_)
          clear hK K
          try simp only [Act.put, List.setIfInBounds_toArray, List.set_cons_zero, List.set_cons_succ]
          refine wpAnyH_take (i := 14) (oi := { dst := some 11, op := Op.assign (Operand.tmp 54), type := 4, pos := "ref.go:139", after := #[{ on := 11, ground := Ground.data }, { on := 13, ground := Ground.chain }, { on := 0, ground := Ground.phase }, { on := 1, ground := Ground.phase }, { on := 2, ground := Ground.phase }, { on := 3, ground := Ground.phase }, { on := 4, ground := Ground.phase }, { on := 5, ground := Ground.phase }, { on := 6, ground := Ground.phase }, { on := 7, ground := Ground.phase }, { on := 8, ground := Ground.phase }, { on := 9, ground := Ground.phase }, { on := 10, ground := Ground.phase }, { on := 11, ground := Ground.phase }, { on := 12, ground := Ground.phase }, { on := 13, ground := Ground.phase }], guard := none }) (v := ?vvw15) rfl (by kernel_rfl) (by kernel_rfl) (by kernel_rfl) (fun _ _ _ h => h) (Or.inl ⟨by rfl, ?hyw15⟩) (by assumption) ?restw15
          case hyw15 => (intro wS hSw; (try dsimp only at hSw); (repeat (obtain ⟨_, hSw⟩ := hSw)); go_simp; try (with_reducible rfl))
          try simp only [Act.put, List.setIfInBounds_toArray, List.set_cons_zero, List.set_cons_succ]
          refine wpAnyH_done (by kernel_rfl) ?_ _
          go_wp2_with fail
          go_meet
          have hbn : Blk (w6.alloc (.cells #[.int .i64 zk, .string zn.u, .string zn.l, .string zn.p, .slice zbA zbn zbc, .slice zaA zan zac, .string zt, .string zg, .slice zkA zkn zkc] 28)) w6.heap.size #[.int .i64 zk, .string zn.u, .string zn.l, .string zn.p, .slice zbA zbn zbc, .slice zaA zan zac, .string zt, .string zg, .slice zkA zkn zkc] 28 := Blk.new w6 _ _
          exact ⟨Nd.mk zk zn zbA zbn zbc zbs zaA zan zac zal zt zg zkA zkn zkc zks, is, w6.heap.size, rfl, rfl, hbn, hz6.out.1.kept ((Kept.refl w6).alloc _), hz6.out.2.1, hz6.out.2.2.mono (fun b hb => hb.imp id (fun h => Nat.le_trans hz7 h)), kw6.alloc _⟩
        exact AllReadyH.nil
      exact AllReadyH.nil
    refine AllReadyH.cons (o := { dst := some 10, op := Op.alloc 28, type := 0, pos := "ref.go:139", after := #[], guard := none }) rfl (fun K hK => ?stepw16) ?morew16
    case stepw16 =>
      go_simp
      refine hK.out _ _ (by refine MK.out _ ?_; repeat (first | (with_reducible exact Kept.refl _) | (with_reducible exact kw6) | (with_reducible refine Kept.drew ?_) | (with_reducible refine Kept.alloc ?_ _) | (with_reducible refine Kept.setCell ?_ (by first | exact Nat.le_refl _ | exact kw6.size) _))) (fun hHeld => ?_)
      clear hK K
      try simp only [Act.put, List.setIfInBounds_toArray, List.set_cons_zero, List.set_cons_succ]
      refine wpAnyH_ready (rs := [8]) (by kernel_rfl) (by simp) ?_
      refine AllReadyH.cons (o := { dst := some 52, op := Op.call { callee := Callee.value (Operand.func 23), args := #[Operand.tmp 48, Operand.tmp 49, Operand.tmp 51], argTypes := #[28, 26, 45] }, type := 49, pos := "ref.go:139", after := #[{ on := 4, ground := Ground.data }, { on := 5, ground := Ground.data }, { on := 7, ground := Ground.data }], guard := none }) rfl (fun K hK => ?stepw17) ?morew17
      case stepw17 =>
        go_simp
        go_at_call 23
        refine (HW.out _ ((Kept.refl w7).drew.alloc _)).mono ?_
        rintro e w6 ⟨zk, zn, zbA, zbn, zbc, zbs, zaA, zan, zac, zal, zt, zg, zkA, zkn, zkc, zks, is, rfl, hz6, kw6, hk6⟩
        have bz : Blk w6 w7.heap.size znd 28 := Blk.kept (Blk.new w7.drew znd 28) hk6
        obtain ⟨z0, z1, z2, z3, z4, z5, z6, z7, z8, zf, zl⟩ := blk_znd bz
        go_wp2_with fail
        refine hK.out _ _ (by refine MK.out _ ?_; repeat (first | (with_reducible exact Kept.refl _) | (with_reducible exact kw6) | (with_reducible refine Kept.drew ?_) | (with_reducible refine Kept.alloc ?_ _) | (with_reducible refine Kept.setCell ?_ (by first | exact Nat.le_refl _ | exact kw6.size) _))) (fun hHeld => ?_)
        clear hK K
        try simp only [Act.put, List.setIfInBounds_toArray, List.set_cons_zero, List.set_cons_succ]
        refine wpAnyH_take (i := 9) (oi := { dst := some 43, op := Op.move (Operand.tmp 52), type := 49, pos := "ref.go:139", after := #[{ on := 8, ground := Ground.data }], guard := none }) (v := ?vvw18) rfl (by kernel_rfl) (by kernel_rfl) (by kernel_rfl) (fun _ _ _ h => h) (Or.inl ⟨by rfl, ?hyw18⟩) (by assumption) ?restw18
        case hyw18 => (intro wS hSw; (try dsimp only at hSw); (repeat (obtain ⟨_, hSw⟩ := hSw)); go_simp; try (with_reducible rfl))
        try simp only [Act.put, List.setIfInBounds_toArray, List.set_cons_zero, List.set_cons_succ]
        refine wpAnyH_take (i := 10) (oi := { dst := some 53, op := Op.extract (Operand.tmp 43) 0, type := 28, pos := "ref.go:139", after := #[{ on := 9, ground := Ground.data }], guard := none }) (v := ?vvw19) rfl (by kernel_rfl) (by kernel_rfl) (by kernel_rfl) (fun _ _ _ h => h) (Or.inl ⟨by rfl, ?hyw19⟩) (by assumption) ?restw19
        case hyw19 => (intro wS hSw; (try dsimp only at hSw); (repeat (obtain ⟨_, hSw⟩ := hSw)); go_simp; try (with_reducible rfl))
        try simp only [Act.put, List.setIfInBounds_toArray, List.set_cons_zero, List.set_cons_succ]
        refine wpAnyH_take (i := 11) (oi := { dst := some 54, op := Op.extract (Operand.tmp 43) 1, type := 4, pos := "ref.go:139", after := #[{ on := 9, ground := Ground.data }, { on := 13, ground := Ground.gcOnly Departure.lateStores }], guard := none }) (v := ?vvw20) rfl (by kernel_rfl) (by kernel_rfl) (by kernel_rfl) (fun _ _ _ h => h) (Or.inl ⟨by rfl, ?hyw20⟩) (by assumption) ?restw20
        case hyw20 => (intro wS hSw; (try dsimp only at hSw); (repeat (obtain ⟨_, hSw⟩ := hSw)); go_simp; try (with_reducible rfl))
        try simp only [Act.put, List.setIfInBounds_toArray, List.set_cons_zero, List.set_cons_succ]
        refine wpAnyH_ready (rs := [13]) (by kernel_rfl) (by simp) ?_
        refine AllReadyH.cons (o := { dst := none, op := Op.store 28 (Operand.tmp 10) (Operand.tmp 53), type := 0, pos := "ref.go:139", after := #[{ on := 12, ground := Ground.data }, { on := 10, ground := Ground.data }, { on := 8, ground := Ground.chain }, { on := 0, ground := Ground.phase }, { on := 1, ground := Ground.phase }, { on := 2, ground := Ground.phase }, { on := 3, ground := Ground.phase }, { on := 4, ground := Ground.phase }, { on := 5, ground := Ground.phase }, { on := 6, ground := Ground.phase }, { on := 7, ground := Ground.phase }, { on := 8, ground := Ground.phase }, { on := 9, ground := Ground.phase }, { on := 10, ground := Ground.phase }, { on := 11, ground := Ground.textOnly Departure.lateStores }, { on := 12, ground := Ground.phase }], guard := none }) rfl (fun K hK => ?stepw21) ?morew21
        case stepw21 =>
          go_simp
          refine hK.out _ _ (by refine MK.out _ ?_; repeat (first | (with_reducible exact Kept.refl _) | (with_reducible exact kw6) | (with_reducible refine Kept.drew ?_) | (with_reducible refine Kept.alloc ?_ _) | (with_reducible refine Kept.setCell ?_ (by first | exact Nat.le_refl _ | exact kw6.size) _))) (fun hHeld => ?_)
          clear hK K
          try simp only [Act.put, List.setIfInBounds_toArray, List.set_cons_zero, List.set_cons_succ]
          refine wpAnyH_take (i := 14) (oi := { dst := some 11, op := Op.assign (Operand.tmp 54), type := 4, pos := "ref.go:139", after := #[{ on := 11, ground := Ground.data }, { on := 13, ground := Ground.chain }, { on := 0, ground := Ground.phase }, { on := 1, ground := Ground.phase }, { on := 2, ground := Ground.phase }, { on := 3, ground := Ground.phase }, { on := 4, ground := Ground.phase }, { on := 5, ground := Ground.phase }, { on := 6, ground := Ground.phase }, { on := 7, ground := Ground.phase }, { on := 8, ground := Ground.phase }, { on := 9, ground := Ground.phase }, { on := 10, ground := Ground.phase }, { on := 11, ground := Ground.phase }, { on := 12, ground := Ground.phase }, { on := 13, ground := Ground.phase }], guard := none }) (v := ?vvw22) rfl (by kernel_rfl) (by kernel_rfl) (by kernel_rfl) (fun _ _ _ h => h) (Or.inl ⟨by rfl, ?hyw22⟩) (by assumption) ?restw22
          case hyw22 => (intro wS hSw; (try dsimp only at hSw); (repeat (obtain ⟨_, hSw⟩ := hSw)); go_simp; try (with_reducible rfl))
          try simp only [Act.put, List.setIfInBounds_toArray, List.set_cons_zero, List.set_cons_succ]
          refine wpAnyH_done (by kernel_rfl) ?_ _
          have hbn := blk_setB9 bz (.int .i64 zk) (.string zn.u) (.string zn.l) (.string zn.p) (.slice zbA zbn zbc) (.slice zaA zan zac) (.string zt) (.string zg) (.slice zkA zkn zkc)
          have kwn := kept_setB9 kw6 (Nat.le_refl _) (.int .i64 zk) (.string zn.u) (.string zn.l) (.string zn.p) (.slice zbA zbn zbc) (.slice zaA zan zac) (.string zt) (.string zg) (.slice zkA zkn zkc)
          have okz := hz6.out.1.grown (grown_setB9 w6 w7.heap.size (.int .i64 zk) (.string zn.u) (.string zn.l) (.string zn.p) (.slice zbA zbn zbc) (.slice zaA zan zac) (.string zt) (.string zg) (.slice zkA zkn zkc)) (hz6.out.2.2.mono (fun b hb => by
            intro e
            injection e with e
            have hb' : b < B ∨ w7.heap.size + 1 ≤ b := by simpa using hb
            have := K7.size
            omega))
          go_wp2_with fail
          go_meet
          exact ⟨Nd.mk zk zn zbA zbn zbc zbs zaA zan zac zal zt zg zkA zkn zkc zks, is, w7.heap.size, rfl, rfl, hbn, okz, hz6.out.2.1, hz6.out.2.2.mono (fun b hb => by
            have hb' : b < B ∨ w7.heap.size + 1 ≤ b := by simpa using hb
            omega), kwn⟩
        exact AllReadyH.nil
      exact AllReadyH.nil
    exact AllReadyH.nil
  case rest =>
  obtain ⟨y', is, g5, rfl, rfl, b5x, yok, hres, yout, k5⟩ := hcut
  obtain ⟨zk, zn, zbA, zbn, zbc, zbs, zaA, zan, zac, zal, zt, zg, zkA, zkn, zkc, zks⟩ := y'
  have b5 : Blk wc g5 #[.int .i64 zk, .string zn.u, .string zn.l, .string zn.p, .slice zbA zbn zbc, .slice zaA zan zac, .string zt, .string zg, .slice zkA zkn zkc] 28 := b5x
  have zc := z7.kept k5
  have kc5 := K7.trans k5
  have bc5 := b7.kept k5
  clear b5x y0 y1 y2 y3 y4 y5 y6 y7 y8 MK
  cases is
  · have hn : o = none := by
      rcases hres.out with h1 | h1
      · cases h1.2
      · rw [HO1.out]
        exact withQ_none hps HYT.out h1.1
    have HN := Lib.hid hn
    clear hn
    obtain ⟨z0, z1, z2, z3, z4, z5, z6, z7, z8, zf, zl⟩ := blk_znd zc
    have HP := Lib.hid (with_nothing (B := B) hw2 kc5 HN.out)
    have bz := blk_setB9 zc (.int .i64 0) (.string ⟨#[]⟩) (.string ⟨#[]⟩) (.string ⟨#[]⟩) (.slice none 0 0) (.slice none 0 0) (.string ⟨#[]⟩) (.string ⟨#[]⟩) (.slice none 0 0)
    go_wp2_with fail
    change Ends QP QR _ _ (setB9 wc g2 (.int .i64 0) (.string ⟨#[]⟩) (.string ⟨#[]⟩) (.string ⟨#[]⟩) (.slice none 0 0) (.slice none 0 0) (.string ⟨#[]⟩) (.string ⟨#[]⟩) (.slice none 0 0))
    generalize setB9 wc g2 (.int .i64 0) (.string ⟨#[]⟩) (.string ⟨#[]⟩) (.string ⟨#[]⟩) (.slice none 0 0) (.slice none 0 0) (.string ⟨#[]⟩) (.string ⟨#[]⟩) (.slice none 0 0) = WE at bz HP ⊢
    have cz := bz.cell
    have d0 := cz 0
    have d1 := cz 1
    have d2 := cz 2
    have d3 := cz 3
    have d4 := cz 4
    have d5 := cz 5
    have d6 := cz 6
    have d7 := cz 7
    have d8 := cz 8
    refine HQE.out _ _ _ ?_
    exact bodyPost_ret (v := .tuple #[.agg #[.int .i64 0, .string ⟨#[]⟩, .string ⟨#[]⟩, .string ⟨#[]⟩, .slice none 0 0, .slice none 0 0, .string ⟨#[]⟩, .string ⟨#[]⟩, .slice none 0 0], .bool false]) (by simp [results, Try.results23, go_sem, d0, d1, d2, d3, d4, d5, d6, d7, d8]) rfl HP.out
  have hs1 : withT (Nd.mk yk yn ybA ybn ybc ybs yaA yan yac yal yt yg ykA ykn ykc yks).tr (l.map Nd.tr) ps = some (Nd.mk zk zn zbA zbn zbc zbs zaA zan zac zal zt zg zkA zkn zkc zks).tr := by
    rcases hres.out with h1 | h1
    · exact h1.1
    · cases h1.2
  have hn : o = some (.mk k n bs al t g ((ks.take q ++ [(Nd.mk zk zn zbA zbn zbc zbs zaA zan zac zal zt zg zkA zkn zkc zks)] ++ ks.drop (q + 1)).map Nd.tr)) := by
    rw [HO1.out, withQ_some hps HYT.out hs1, List.map_append, List.map_append, List.map_take, List.map_drop]
    rfl
  have HN := Lib.hid hn
  clear hn hs1
  have HPK := Lib.hid (show 0 < kn ∧ q < ks.length by have := HL.out; omega)
  obtain ⟨GA, hGA⟩ : ∃ GA, some (⟨yb, yo, none⟩ : Addr) = GA := ⟨_, rfl⟩
  have hkN8 := hkN.kept kc5
  rw [hGA] at hkN8 bc5
  have c8 : wc.cell? ⟨g1, 8, none⟩ = some (.slice GA kn kc) := bc5.cell 8
  have g1l4 := bc5.lt
  have o0 := own_lit (w := wc) (base := wc.heap.size) (e := 28) (size := 9) (n := 0) (cs := []) (by rfl) (by omega) (Nat.le_refl _)
  have k0 := (Kept.refl wc).alloc (.cells #[] 28)
  have p1 := hkN8.1.kept k0
  have hwz : Wz ≤ wc.heap.size := Nat.le_trans hz7 k5.size
  have hkn9 : kn ≤ 1000 := by omega
  go_upto_region 13 with (at_builtin; refine wpList_appk wc (by rfl) _ _ (by rfl) appT_rnd (by rfl) o0 k0 (by rfl) p1 ?_ ?_; (exact ⟨nds_one _, by omega⟩); (intro v6 w6 hown6 hk6 _ _))
  obtain ⟨A6, c6, rfl, hS6⟩ := Sl.of_own hown6
  rw [List.nil_append, Nat.zero_add] at hS6 hown6
  rw [Nat.zero_add]
  obtain ⟨gL, rfl, hgL, hgL2⟩ := own_form hown6 HPK.out.1
  have hK6 := kc5.trans hk6
  have b56 := b5.kept hk6
  have cb := b56.cell
  have e0 := cb 0
  have e1 := cb 1
  have e2 := cb 2
  have e3 := cb 3
  have e4 := cb 4
  have e5 := cb 5
  have e6 := cb 6
  have e7 := cb 7
  have e8 := cb 8
  obtain ⟨xk, xn, xbA, xbn, xbc, xbs, xaA, xan, xac, xal, xt, xg, xkA, xkn, xkc, xks, _, y0, y1, y2, y3, y4, y5, y6, y7, y8⟩ := own9 hS6 (k := q) (by omega)
  have hfz := hown6.frozenAt
  have own7 := own_setq hown6 HPK.out.2 (.int .i64 zk) (.string zn.u) (.string zn.l) (.string zn.p) (.slice zbA zbn zbc) (.slice zaA zan zac) (.string zt) (.string zg) (.slice zkA zkn zkc) (Nd.mk zk zn zbA zbn zbc zbs zaA zan zac zal zt zg zkA zkn zkc zks) rfl
  have k7 := kept_set9 (q := q) hk6 hgL (.int .i64 zk) (.string zn.u) (.string zn.l) (.string zn.p) (.slice zbA zbn zbc) (.slice zaA zan zac) (.string zt) (.string zg) (.slice zkA zkn zkc)
  clear o0 k0 p1 cb c8 g1l4
  go_upto_region 14 with fail
  refine wp_namedD ?_
  intro w8 hw8
  have own8 : w8.ownsRow wc.heap.size 28 9 (.slice (some ⟨gL, 0, none⟩) kn c6) kn ((ks.take q ++ [(Nd.mk zk zn zbA zbn zbc zbs zaA zan zac zal zt zg zkA zkn zkc zks)] ++ ks.drop (q + 1)).flatMap Nd.cells) := by rw [hw8]; exact own7
  have k8 : Kept wc w8 := by rw [hw8]; exact k7
  have b8 := bc5.kept k8
  have z8x := zc.kept k8
  have K8 := kc5.trans k8
  obtain ⟨A8, c8', hv8, hS8⟩ := Sl.of_own own8
  injection hv8 with hv8 _ hv8c
  subst hv8 hv8c
  have c8 : w8.cell? ⟨g1, 8, none⟩ = some (.slice GA kn kc) := b8.cell 8
  have bf8 := b8.frozen
  have bl8 := b8.lt
  clear own7 k7 hw8 e0 e1 e2 e3 e4 e5 e6 e7 e8 y0 y1 y2 y3 y4 y5 y6 y7 y8 hfz
  go_upto_region 15 with fail
  refine wp_namedD ?_
  intro w10 hw10
  have hgLz : Wz ≤ gL := by omega
  have hout : ∀ x ∈ ks.take q ++ [(Nd.mk zk zn zbA zbn zbc zbs zaA zan zac zal zt zg zkA zkn zkc zks)] ++ ks.drop (q + 1), x.out (fun b => b < B ∨ Wz ≤ b) := by
    intro x hx
    rcases List.mem_append.1 hx with hx | hx
    · rcases List.mem_append.1 hx with hx | hx
      · exact (HXO.out.2.2.2 x (List.mem_of_mem_take hx)).mono (fun b hb => .inl hb)
      · rw [List.mem_singleton.1 hx]
        exact yout
    · exact (HXO.out.2.2.2 x (List.mem_of_mem_drop hx)).mono (fun b hb => .inl hb)
  have hoks : ∀ x ∈ ks.take q ++ [(Nd.mk zk zn zbA zbn zbc zbs zaA zan zac zal zt zg zkA zkn zkc zks)] ++ ks.drop (q + 1), x.ok w8 := by
    intro x hx
    rcases List.mem_append.1 hx with hx | hx
    · rcases List.mem_append.1 hx with hx | hx
      · exact (hkN8.2 x (List.mem_of_mem_take hx)).kept k8
      · rw [List.mem_singleton.1 hx]
        exact yok.kept k8
    · exact (hkN8.2 x (List.mem_of_mem_drop hx)).kept k8
  have b10 : Blk w10 g1 (ndc k n bA bn bc aA an ac t g (some ⟨gL, 0, none⟩) kn c6) 28 := by rw [hw10]; simpa using b8.set 8 (.slice (some ⟨gL, 0, none⟩) kn c6)
  have z10 : Blk w10 g2 znd 28 := by rw [hw10]; exact z8x.far (p := ⟨g1, 8, none⟩) (fun h' => h12 h'.symm) (.slice (some ⟨gL, 0, none⟩) kn c6)
  have k10 : Kept w w10 := by rw [hw10]; exact K8.setCell (p := ⟨g1, 8, none⟩) hw1 (.slice (some ⟨gL, 0, none⟩) kn c6)
  have hF10 : Nds w10 (some ⟨gL, 0, none⟩) kn c6 (ks.take q ++ [(Nd.mk zk zn zbA zbn zbc zbs zaA zan zac zal zt zg zkA zkn zkc zks)] ++ ks.drop (q + 1)) := by
    rw [hw10]
    exact ⟨hS8.grown0 (grown_set1 w8 g1 8 _) (fun b o hn e => by
      injection e with e
      injection e with e _
      intro e'
      injection e' with e'
      omega), fun x hx => (hoks x hx).grown (grown_set1 w8 g1 8 _) ((hout x hx).mono (fun b hb => by
      intro e
      injection e with e
      omega))⟩
  have HP := Lib.hid (with_post (hb.kept k10) (ha.kept k10) HXO.out.1 HXO.out.2.1 hB hw2 (by omega) k10 hF10 hout (fun b o _ e => by
    injection e with e
    injection e with e _
    omega) HN.out)
  clear hw10 c8 bf8 bl8
  have fcl := b10.cell
  have f0 := fcl 0
  have f1 := fcl 1
  have f2 := fcl 2
  have f3 := fcl 3
  have f4 := fcl 4
  have f5 := fcl 5
  have f6 := fcl 6
  have f7 := fcl 7
  have f8 := fcl 8
  obtain ⟨z0, z1, z2, z3, z4, z5, z6, z7, z8, zf, zl⟩ := blk_znd z10
  go_wp2_with fail
  have bz := blk_setB9 z10 (.int .i64 k) (.string n.u) (.string n.l) (.string n.p) (.slice bA bn bc) (.slice aA an ac) (.string t) (.string g) (.slice (some ⟨gL, 0, none⟩) kn c6)
  change Ends QP QR _ _ (setB9 w10 g2 (.int .i64 k) (.string n.u) (.string n.l) (.string n.p) (.slice bA bn bc) (.slice aA an ac) (.string t) (.string g) (.slice (some ⟨gL, 0, none⟩) kn c6))
  generalize setB9 w10 g2 (.int .i64 k) (.string n.u) (.string n.l) (.string n.p) (.slice bA bn bc) (.slice aA an ac) (.string t) (.string g) (.slice (some ⟨gL, 0, none⟩) kn c6) = WE at bz HP ⊢
  have cz := bz.cell
  have d0 := cz 0
  have d1 := cz 1
  have d2 := cz 2
  have d3 := cz 3
  have d4 := cz 4
  have d5 := cz 5
  have d6 := cz 6
  have d7 := cz 7
  have d8 := cz 8
  refine HQE.out _ _ _ ?_
  exact bodyPost_ret (v := .tuple #[.agg #[.int .i64 k, .string n.u, .string n.l, .string n.p, .slice bA bn bc, .slice aA an ac, .string t, .string g, .slice (some ⟨gL, 0, none⟩) kn c6], .bool true]) (by simp [results, Try.results23, go_sem, d0, d1, d2, d3, d4, d5, d6, d7, d8]) rfl HP.out
end Go.Proofs.Ytnlncamiaddhfaa
