/- A node in which what a path leads to is other nodes: the program's With walked. -/
import Derived.Test.YtnlncamiaddhfaaInfK
namespace Go.Proofs.Ytnlncamiaddhfaa
open Go.RowKit
attribute [local go_sem ↓] Go.wp_at_zero Go.wp_at_succ

def setKids : Tr → List Tr → Tr
  | .mk k n bs al t g _, ks => .mk k n bs al t g ks
def withT : Tr → List Tr → List Int → Option Tr
  | _, _, [] => none
  | x, kids, s :: ps => match kidT x.kids s with
    | none => none
    | some q => if ps = [] then some (setKids x (mergedT (x.kids.take q ++ kids ++ x.kids.drop (q + 1)))) else match x.kids[q]? with
      | none => none
      | some y => match withT y kids ps with
        | none => none
        | some z => some (setKids x (x.kids.take q ++ [z] ++ x.kids.drop (q + 1)))
def withQ (x : Tr) (kids : List Tr) (ps : List Int) : Option Nat → Option Tr
  | none => none
  | some q => if ps = [] then some (setKids x (mergedT (x.kids.take q ++ kids ++ x.kids.drop (q + 1)))) else match x.kids[q]? with
      | none => none
      | some y => match withT y kids ps with
        | none => none
        | some z => some (setKids x (x.kids.take q ++ [z] ++ x.kids.drop (q + 1)))
theorem withT_cons (x : Tr) (kids : List Tr) (s : Int) (ps : List Int) : withT x kids (s :: ps) = withQ x kids ps (kidT x.kids s) := by
  rw [withT]
  cases kidT x.kids s <;> rfl
theorem withQ_one (x : Tr) (kids : List Tr) (q : Nat) : withQ x kids [] (some q) = some (setKids x (mergedT (x.kids.take q ++ kids ++ x.kids.drop (q + 1)))) := rfl
theorem withQ_some {x : Tr} {kids : List Tr} {ps : List Int} {q : Nat} {y z : Tr} (hp : ps ≠ []) (hy : x.kids[q]? = some y) (hz : withT y kids ps = some z) : withQ x kids ps (some q) = some (setKids x (x.kids.take q ++ [z] ++ x.kids.drop (q + 1))) := by
  unfold withQ
  simp only [if_neg hp, hy, hz]
theorem withQ_none {x : Tr} {kids : List Tr} {ps : List Int} {q : Nat} {y : Tr} (hp : ps ≠ []) (hy : x.kids[q]? = some y) (hz : withT y kids ps = none) : withQ x kids ps (some q) = none := by
  unfold withQ
  simp only [if_neg hp, hy, hz]
/-- What With answers. -/
def WithOf (o : Option Tr) (B : Nat) (w : World) (e : Ending) (w' : World) : Prop :=
  ∃ (y : Nd) (b : Bool), e = .returned (.tuple #[y.val, .bool b]) ∧ y.ok w' ∧ ((o = some y.tr ∧ b = true) ∨ (o = none ∧ b = false ∧ y = Nd.none_)) ∧ Kept w w' ∧ y.out (fun b => b < B ∨ w.heap.size ≤ b)
theorem parts_with {kA : Option Addr} {kn kc : Nat} {ks : List Nd} {q : Nat} {A' : Option Addr} {n' c' : Nat} {l' : List Nd} {w W : World} (h : Sl w 9 kA kn kc (ks.flatMap Nd.cells)) (h' : Sl w 9 A' n' c' (l'.flatMap Nd.cells)) (hq : q < kn) (hk : Kept w W) :
    PartsNds W [((kA, q, kc), (ks.take q).flatMap Nd.cells), ((A', n', c'), l'.flatMap Nd.cells), ((cutA kA kc (q + 1) 9, kn - (q + 1), kc - (q + 1)), (ks.drop (q + 1)).flatMap Nd.cells)] := by
  have hL := h.llen Nd.cells_len (by omega)
  intro p hp
  simp only [List.mem_cons, List.not_mem_nil, or_false] at hp
  rcases hp with rfl | rfl | rfl
  · have h1 := h.to (m := q) (by omega)
    rw [flat_take Nd.cells_len] at h1
    exact ⟨h1.kept hk, nds_one _⟩
  · exact ⟨h'.kept hk, nds_one _⟩
  · have h1 := h.cutf Nd.cells_len (i := q + 1) (m := kn) (by omega) (Nat.le_refl _)
    rw [List.take_of_length_le (by rw [List.length_drop]; omega)] at h1
    exact ⟨h1.kept hk, nds_one _⟩
set_option maxHeartbeats 8000000 in
theorem with_any (x : Nd) : ∀ (LA : Option Addr) (ln lc : Nat) (l : List Nd) (PA : Option Addr) (pn pc : Nat) (ps : List Int) (B : Nat) (w : World), x.out (fun b => b < B) → (∀ y ∈ l, y.out (fun b => b < B)) → B ≤ w.heap.size → x.ok w → Small x.tr → Txts 140737488355328 x.tr → Nds w LA ln lc l → ln ≤ 100 → (∀ y ∈ l, Txts 140737488355328 y.tr) →
    Sl w 1 PA pn pc (ps.map (Value.int .i64)) → (∀ z ∈ ps, -9223372036854775808 ≤ z ∧ z ≤ 9223372036854775807) →
    Calls Try.prog 21 #[x.val, .slice LA ln lc, .slice PA pn pc] w fun e w' => WithOf (withT x.tr (l.map Nd.tr) ps) B w e w' := by
  induction x using Nd.ind with
  | h k n bA bn bc bs aA an ac al t g kA kn kc ks ih =>
  intro LA ln lc l PA pn pc ps B w hxo hlo hB hok hsm htx hl hln hlt hp hpb
  obtain ⟨hb, ha, h, hks⟩ := hok.parts
  have hkN : Nds w kA kn kc ks := ⟨h, hks⟩
  have IH := Lib.hid ih
  have HOK := Lib.hid (show _ ∧ _ from ⟨hsm, htx⟩)
  have HXO := Lib.hid hxo.parts
  have HLO := Lib.hid hlo
  have HLT := Lib.hid hlt
  have HPB := Lib.hid hpb
  have hpl := hp.llen1
  have HPL := Lib.hid hpl
  have hpc := hp.cap
  have hpm := hp.max
  have hkc := h.cap
  have hkm := h.max
  have hL := h.llen Nd.cells_len (by omega)
  have hk100 : kn ≤ 100 := by
    rw [Nd.tr_mk] at hsm
    cases hsm with
    | mk h1 h2 h3 h4 => rw [List.length_map, hL] at h3; exact h3
  have HL := Lib.hid hL
  clear ih hok hsm htx hlt hpb hL hxo hlo
  obtain ⟨o, ho⟩ : ∃ o, withT (Nd.mk k n bA bn bc bs aA an ac al t g kA kn kc ks).tr (l.map Nd.tr) ps = o := ⟨_, rfl⟩
  rw [ho]
  have HO := Lib.hid ho
  clear ho
  show Calls Try.prog 21 #[.agg #[.int .i64 k, .string n.u, .string n.l, .string n.p, .slice bA bn bc, .slice aA an ac, .string t, .string g, .slice kA kn kc], .slice LA ln lc, .slice PA pn pc] w _
  have k1 := ((Kept.refl w).alloc (.cells (ndc k n bA bn bc aA an ac t g kA kn kc) 36)).alloc (.cells znd 36)
  have b1 := (Blk.new w (ndc k n bA bn bc aA an ac t g kA kn kc) 36).alloc (.cells znd 36)
  have z1 := Blk.new (w.alloc (.cells (ndc k n bA bn bc aA an ac t g kA kn kc) 36)) znd 36
  go_enter Try.func21, Try.ntmps21
  go_upto_region 1 with fail
  have s1 : ((w.alloc (.cells (ndc k n bA bn bc aA an ac t g kA kn kc) 36)).alloc (.cells znd 36)).heap.size = w.heap.size + 1 + 1 := by simp
  generalize (w.alloc (.cells (ndc k n bA bn bc aA an ac t g kA kn kc) 36)).alloc (.cells znd 36) = w1 at k1 b1 z1 s1 ⊢
  have z1' : Blk w1 (w.heap.size + 1) znd 36 := by simpa using z1
  clear z1
  obtain ⟨g1, hg1⟩ : ∃ g1, w.heap.size = g1 := ⟨_, rfl⟩
  obtain ⟨g2, hg2⟩ : ∃ g2, w.heap.size + 1 = g2 := ⟨_, rfl⟩
  rw [hg2] at z1' ⊢
  rw [hg1] at b1 ⊢
  have hw1 : w.heap.size ≤ g1 := by omega
  have hw2 : w.heap.size ≤ g2 := by omega
  have h12 : g1 ≠ g2 := by omega
  have g1l := b1.lt
  have g2l := z1'.lt
  obtain ⟨Wz, hWz⟩ : ∃ z, w1.heap.size = z := ⟨_, rfl⟩
  have HWZ := Lib.hid hWz
  rw [hWz] at g1l g2l s1
  have hWg : Wz = g2 + 1 := by omega
  clear hg1 hg2 hWz s1
  cases ps with
  | nil =>
    obtain rfl : pn = 0 := by simpa using hpl.symm
    have z2 := blk_znd z1'
    obtain ⟨z0, z1, z2, z3, z4, z5, z6, z7, z8, zf, zl⟩ := z2
    go_wp2_with fail
    have bz := blk_setB9 z1' (.int .i64 0) (.string ⟨#[]⟩) (.string ⟨#[]⟩) (.string ⟨#[]⟩) (.slice none 0 0) (.slice none 0 0) (.string ⟨#[]⟩) (.string ⟨#[]⟩) (.slice none 0 0)
    have kz := kept_setB9 k1 hw2 (.int .i64 0) (.string ⟨#[]⟩) (.string ⟨#[]⟩) (.string ⟨#[]⟩) (.slice none 0 0) (.slice none 0 0) (.string ⟨#[]⟩) (.string ⟨#[]⟩) (.slice none 0 0)
    change bodyPost _ _ _ _ _ (setB9 w1 g2 (.int .i64 0) (.string ⟨#[]⟩) (.string ⟨#[]⟩) (.string ⟨#[]⟩) (.slice none 0 0) (.slice none 0 0) (.string ⟨#[]⟩) (.string ⟨#[]⟩) (.slice none 0 0))
    generalize setB9 w1 g2 (.int .i64 0) (.string ⟨#[]⟩) (.string ⟨#[]⟩) (.string ⟨#[]⟩) (.slice none 0 0) (.slice none 0 0) (.string ⟨#[]⟩) (.string ⟨#[]⟩) (.slice none 0 0) = W at bz kz ⊢
    have cz := bz.cell
    have d0 := cz 0
    have d1 := cz 1
    have d2 := cz 2
    have d3 := cz 3
    have d4 := cz 4
    have d5 := cz 5
    have d6 := cz 6
    have d7 := cz 7
    have d8 := cz 8
    exact bodyPost_ret (v := .tuple #[.agg #[.int .i64 0, .string ⟨#[]⟩, .string ⟨#[]⟩, .string ⟨#[]⟩, .slice none 0 0, .slice none 0 0, .string ⟨#[]⟩, .string ⟨#[]⟩, .slice none 0 0], .bool false]) (by simp [results, Try.results21, go_sem, d0, d1, d2, d3, d4, d5, d6, d7, d8]) rfl ⟨Nd.none_, false, rfl, Nd.none_ok _, .inr ⟨HO.out.symm, rfl, rfl⟩, kz, Nd.none_out _⟩
  | cons s ps =>
    obtain ⟨pb, po, s', rfl, hs', p0, hpb'⟩ := hp.oneb (k := 0) (by have := hpl; simp at this; omega)
    have hs'' : s' = s := by simpa using hs'.symm
    subst hs''
    have hp1 : 0 < pn := by have := hpl; simp at this; omega
    have p0' : w1.cell? ⟨pb, po, none⟩ = some (.int .i64 s') := k1.cell p0
    have HKD := Lib.hid (kid_any k n bA bn bc aA an ac t g kA kn kc ks s')
    have hsb := HPB.out s' (by simp)
    obtain ⟨oq, hoq⟩ : ∃ oq, kidT (ks.map Nd.tr) s' = oq := ⟨_, rfl⟩
    rw [hoq] at HKD
    have HQ := Lib.hid hoq
    have bf := b1.cell
    have c0 : w1.cell? ⟨g1, 0, none⟩ = some (.int .i64 k) := bf 0
    have c1 : w1.cell? ⟨g1, 1, none⟩ = some (.string n.u) := bf 1
    have c2 : w1.cell? ⟨g1, 2, none⟩ = some (.string n.l) := bf 2
    have c3 : w1.cell? ⟨g1, 3, none⟩ = some (.string n.p) := bf 3
    have c4 : w1.cell? ⟨g1, 4, none⟩ = some (.slice bA bn bc) := bf 4
    have c5 : w1.cell? ⟨g1, 5, none⟩ = some (.slice aA an ac) := bf 5
    have c6 : w1.cell? ⟨g1, 6, none⟩ = some (.string t) := bf 6
    have c7 : w1.cell? ⟨g1, 7, none⟩ = some (.string g) := bf 7
    have c8 : w1.cell? ⟨g1, 8, none⟩ = some (.slice kA kn kc) := bf 8
    have hkN1 := hkN.kept k1
    clear hoq bf hs' hpl
    have l1 : ¬ ((pn : Int) = 0) := by omega
    have l2 : ¬ (pn = 0) := by omega
    go_upto_region 3 with fail
    go_region_held3 (fun w' => w'.cell? ⟨g1, 0, none⟩ = some (.int .i64 k) ∧ w'.cell? ⟨g1, 1, none⟩ = some (.string n.u) ∧ w'.cell? ⟨g1, 2, none⟩ = some (.string n.l) ∧ w'.cell? ⟨g1, 3, none⟩ = some (.string n.p) ∧ w'.cell? ⟨g1, 4, none⟩ = some (.slice bA bn bc) ∧ w'.cell? ⟨g1, 5, none⟩ = some (.slice aA an ac) ∧ w'.cell? ⟨g1, 6, none⟩ = some (.string t) ∧ w'.cell? ⟨g1, 7, none⟩ = some (.string g) ∧ w'.cell? ⟨g1, 8, none⟩ = some (.slice kA kn kc) ∧ w'.cell? ⟨pb, po, none⟩ = some (.int .i64 s'))
      (first | exact ⟨c0, c1, c2, c3, c4, c5, c6, c7, c8, p0'⟩ | exact ⟨hk4.cell c0, hk4.cell c1, hk4.cell c2, hk4.cell c3, hk4.cell c4, hk4.cell c5, hk4.cell c6, hk4.cell c7, hk4.cell c8, hk4.cell p0'⟩)
      (first | (go_at_call 28; refine (HKD.out _ (hkN1.kept (Kept.refl w1).drew) (by omega) hsb).mono ?_; rintro e w4 ⟨⟨q, bq, rfl, hq⟩, hk4⟩))
    have K4 : Kept w w4 := k1.trans (Kept.trans (Kept.refl w1).drew hk4)
    have hz4 : Wz ≤ w4.heap.size := by
      have h1 := HWZ.out
      have h2 := (Kept.trans (Kept.refl w1).drew hk4).size
      omega
    have b4 := (b1.drew).kept hk4
    have z4' := (z1'.drew).kept hk4
    clear c0 c1 c2 c3 c4 c5 c6 c7 c8 p0' b1 k1 hkN1 HKD hk4
    have hO1 : o = withQ (Tr.mk k n bs al t g (ks.map Nd.tr)) (l.map Nd.tr) ps oq := by
      rw [← HO.out, Nd.tr_mk, withT_cons]
      show withQ _ _ _ (kidT (ks.map Nd.tr) s') = _
      rw [HQ.out]
    have HO1 := Lib.hid hO1
    clear hO1
    rcases hq with ⟨rfl, rfl⟩ | ⟨rfl, rfl, rfl⟩
    rotate_left
    · obtain ⟨z0, z1, z2, z3, z4, z5, z6, z7, z8, zf, zl⟩ := blk_znd z4'
      go_wp2_with fail
      have bz := blk_setB9 z4' (.int .i64 0) (.string ⟨#[]⟩) (.string ⟨#[]⟩) (.string ⟨#[]⟩) (.slice none 0 0) (.slice none 0 0) (.string ⟨#[]⟩) (.string ⟨#[]⟩) (.slice none 0 0)
      have kz := kept_setB9 K4 hw2 (.int .i64 0) (.string ⟨#[]⟩) (.string ⟨#[]⟩) (.string ⟨#[]⟩) (.slice none 0 0) (.slice none 0 0) (.string ⟨#[]⟩) (.string ⟨#[]⟩) (.slice none 0 0)
      change bodyPost _ _ _ _ _ (setB9 w4 g2 (.int .i64 0) (.string ⟨#[]⟩) (.string ⟨#[]⟩) (.string ⟨#[]⟩) (.slice none 0 0) (.slice none 0 0) (.string ⟨#[]⟩) (.string ⟨#[]⟩) (.slice none 0 0))
      generalize setB9 w4 g2 (.int .i64 0) (.string ⟨#[]⟩) (.string ⟨#[]⟩) (.string ⟨#[]⟩) (.slice none 0 0) (.slice none 0 0) (.string ⟨#[]⟩) (.string ⟨#[]⟩) (.slice none 0 0) = W at bz kz ⊢
      have cz := bz.cell
      have d0 := cz 0
      have d1 := cz 1
      have d2 := cz 2
      have d3 := cz 3
      have d4 := cz 4
      have d5 := cz 5
      have d6 := cz 6
      have d7 := cz 7
      have d8 := cz 8
      exact bodyPost_ret (v := .tuple #[.agg #[.int .i64 0, .string ⟨#[]⟩, .string ⟨#[]⟩, .string ⟨#[]⟩, .slice none 0 0, .slice none 0 0, .string ⟨#[]⟩, .string ⟨#[]⟩, .slice none 0 0], .bool false]) (by simp [results, Try.results21, go_sem, d0, d1, d2, d3, d4, d5, d6, d7, d8]) rfl ⟨Nd.none_, false, rfl, Nd.none_ok _, .inr ⟨HO1.out, rfl, rfl⟩, kz, Nd.none_out _⟩
    have hqk := (kid_bd HQ.out).1
    rw [List.length_map, HL.out] at hqk
    have l3 : (q : Int) < kn := by omega
    have l4 : (0 : Int) ≤ q := by omega
    have hkN4 := hkN.kept K4
    obtain ⟨T1, hT1⟩ : ∃ T1, decide ((1 : Int) < pn) = T1 := ⟨_, rfl⟩
    go_upto_if 29 with fail
    obtain ⟨w5, hw5⟩ : ∃ z, z = w4 := ⟨_, rfl⟩
    subst hw5
    go_cut [1] (fun v wx => ∃ (A' : Option Addr) (n' c' : Nat) (l' : List Nd), v = .slice A' n' c' ∧ Nds wx A' n' c' l' ∧ n' ≤ 100 ∧
      Hid (o = some (setKids (Tr.mk k n bs al t g (ks.map Nd.tr)) (if pn = 1 then mergedT ((ks.map Nd.tr).take q ++ l'.map Nd.tr ++ (ks.map Nd.tr).drop (q + 1)) else (ks.map Nd.tr).take q ++ l'.map Nd.tr ++ (ks.map Nd.tr).drop (q + 1)))) ∧
      (pn = 1 → ∀ y ∈ l', Txts 140737488355328 y.tr) ∧ (∀ y ∈ l', y.out (fun b => b < B ∨ Wz ≤ b)) ∧ Blk wx g1 (ndc k n bA bn bc aA an ac t g kA kn kc) 36 ∧ Blk wx g2 znd 36 ∧ Kept w wx)
    case first =>
      cases T1
      · have l5 : ¬ (1 : Int) < pn := by simpa using hT1
        go_wp2_with fail
        go_meet
        have hp1' : pn = 1 := by omega
        have hps : ps = [] := by
          have := HPL.out
          simp at this
          exact List.eq_nil_of_length_eq_zero (by omega)
        refine ⟨LA, ln, lc, l, rfl, hl.kept K4, hln, ?_, fun _ => HLT.out, fun y hy => (HLO.out y hy).mono (fun b hb => .inl hb), b4, z4', K4⟩
        unfold Hid
        rw [HO1.out, if_pos hp1', hps]
        rfl
      · have l5 : (1 : Int) < pn := by simpa using hT1
        have hps : ps ≠ [] := by
          intro h0
          have := HPL.out
          rw [h0] at this
          simp at this
          omega
        obtain ⟨yb, yo, yk, yn, ybA, ybn, ybc, ybs, yaA, yan, yac, yal, yt, yg, ykA, ykn, ykc, yks, rfl, hy, y0, y1, y2, y3, y4, y5, y6, y7, y8, hyb⟩ := cells9 hkN4.1 (k := q) (by omega)
        have hyo := hkN4.2 _ (List.mem_of_getElem? hy)
        have hyt := map_get (f := Nd.tr) hy
        have hih := IH.out _ (List.mem_of_getElem? hy)
        have hst : Small (Nd.mk yk yn ybA ybn ybc ybs yaA yan yac yal yt yg ykA ykn ykc yks).tr ∧ Txts 140737488355328 (Nd.mk yk yn ybA ybn ybc ybs yaA yan yac yal yt yg ykA ykn ykc yks).tr := by
          have h1 := HOK.out
          rw [Nd.tr_mk] at h1
          obtain ⟨h1, h2⟩ := h1
          cases h1 with
          | mk a1 a2 a3 a4 =>
            cases h2 with
            | mk b1 b2 => exact ⟨a4 _ (List.mem_of_getElem? hyt), b2 _ (List.mem_of_getElem? hyt)⟩
        have HST := Lib.hid hst
        have HYT := Lib.hid hyt
        have hcut : ∀ wv : World, (Instr.slice 45 (.slice (some ⟨pb, po, none⟩) pn pc) (some (.int .i64 1)) none none).run Try.prog wv = .ok (.slice (cutA (some ⟨pb, po, none⟩) pc 1 1) (pn - 1) (pc - 1)) wv := run_cut_l appT_int (some ⟨pb, po, none⟩) pn pc 1 (by omega)
        have hpt := (hp.kept K4).from1 (i := 1) (by omega)
        obtain ⟨CA, hCA⟩ : ∃ CA, cutA (some ⟨pb, po, none⟩) pc 1 1 = CA := ⟨_, rfl⟩
        rw [hCA] at hcut hpt
        have hpt' : Sl w5 1 CA (pn - 1) (pc - 1) (ps.map (Value.int .i64)) := hpt
        have hlN := hl.kept K4
        have HPT := Lib.hid (show _ ∧ _ from ⟨hpt', hlN⟩)
        have HY0 := Lib.hid hy
        clear hst hyt hpt hpt' hlN hCA hT1 hy
        have c8 : w5.cell? ⟨g1, 8, none⟩ = some (.slice (some ⟨yb, yo, none⟩) kn kc) := b4.cell 8
        have q1 : (1 : Int) ≤ pn := by omega
        have MK : Hid (∀ w', Kept w5 w' → w'.cell? ⟨g1, 8, none⟩ = some (.slice (some ⟨yb, yo, none⟩) kn kc) ∧ w'.cell? ⟨yb, yo + q * 9, none⟩ = some (.int .i64 yk) ∧ w'.cell? ⟨yb, yo + q * 9 + 1, none⟩ = some (.string yn.u) ∧ w'.cell? ⟨yb, yo + q * 9 + 2, none⟩ = some (.string yn.l) ∧ w'.cell? ⟨yb, yo + q * 9 + 3, none⟩ = some (.string yn.p) ∧ w'.cell? ⟨yb, yo + q * 9 + 4, none⟩ = some (.slice ybA ybn ybc) ∧ w'.cell? ⟨yb, yo + q * 9 + 5, none⟩ = some (.slice yaA yan yac) ∧ w'.cell? ⟨yb, yo + q * 9 + 6, none⟩ = some (.string yt) ∧ w'.cell? ⟨yb, yo + q * 9 + 7, none⟩ = some (.string yg) ∧ w'.cell? ⟨yb, yo + q * 9 + 8, none⟩ = some (.slice ykA ykn ykc)) :=
          fun w' kk => ⟨kk.cell c8, kk.cell y0, kk.cell y1, kk.cell y2, kk.cell y3, kk.cell y4, kk.cell y5, kk.cell y6, kk.cell y7, kk.cell y8⟩
        have HYO := Lib.hid (show _ ∧ _ from ⟨hyo, HXO.out.2.2.2 _ (List.mem_of_getElem? HY0.out)⟩)
        clear hyo
        go_upto_region 7 with fail
        go_cut [10, 11] (fun p v wx => ∃ (y' : Nd) (is : Bool) (g5 : Nat), p = .pointer (some ⟨g5, 0, none⟩) ∧ v = .bool is ∧ Blk wx g5 y'.cells.toArray 36 ∧ y'.ok wx ∧ Hid ((withT (Nd.mk yk yn ybA ybn ybc ybs yaA yan yac yal yt yg ykA ykn ykc yks).tr (l.map Nd.tr) ps = some y'.tr ∧ is = true) ∨ (withT (Nd.mk yk yn ybA ybn ybc ybs yaA yan yac yal yt yg ykA ykn ykc yks).tr (l.map Nd.tr) ps = none ∧ is = false)) ∧ y'.out (fun b => b < B ∨ Wz ≤ b) ∧ Kept w5 wx)
        case first =>
          have HW : Hid (∀ w', Kept w5 w' → Calls Try.prog 21 #[.agg #[.int .i64 yk, .string yn.u, .string yn.l, .string yn.p, .slice ybA ybn ybc, .slice yaA yan yac, .string yt, .string yg, .slice ykA ykn ykc], .slice LA ln lc, .slice CA (pn - 1) (pc - 1)] w' fun e w'' =>
              ∃ zk zn zbA zbn zbc zbs zaA zan zac zal zt zg zkA zkn zkc zks is, e = .returned (.tuple #[.agg #[.int .i64 zk, .string (Nm.u zn), .string (Nm.l zn), .string (Nm.p zn), .slice zbA zbn zbc, .slice zaA zan zac, .string zt, .string zg, .slice zkA zkn zkc], .bool is]) ∧
                Hid ((Nd.mk zk zn zbA zbn zbc zbs zaA zan zac zal zt zg zkA zkn zkc zks).ok w'' ∧ ((withT (Nd.mk yk yn ybA ybn ybc ybs yaA yan yac yal yt yg ykA ykn ykc yks).tr (l.map Nd.tr) ps = some (Nd.mk zk zn zbA zbn zbc zbs zaA zan zac zal zt zg zkA zkn zkc zks).tr ∧ is = true) ∨ (withT (Nd.mk yk yn ybA ybn ybc ybs yaA yan yac yal yt yg ykA ykn ykc yks).tr (l.map Nd.tr) ps = none ∧ is = false)) ∧ (Nd.mk zk zn zbA zbn zbc zbs zaA zan zac zal zt zg zkA zkn zkc zks).out (fun b => b < B ∨ w'.heap.size ≤ b)) ∧ Kept w5 w'' ∧ Kept w' w'') := by
            intro w' kk
            refine (hih LA ln lc l CA (pn - 1) (pc - 1) ps B w' HYO.out.2 HLO.out (by have := K4.size; have := kk.size; omega) (HYO.out.1.kept kk) HST.out.1 HST.out.2 (HPT.out.2.kept kk) hln HLT.out (HPT.out.1.kept kk) (fun z hz => HPB.out z (List.mem_cons_of_mem _ hz))).mono ?_
            rintro e w6 ⟨y', is, rfl, yok, hy', hk6, hyo6⟩
            obtain ⟨zk, zn, zbA, zbn, zbc, zbs, zaA, zan, zac, zal, zt, zg, zkA, zkn, zkc, zks⟩ := y'
            exact ⟨zk, zn, zbA, zbn, zbc, zbs, zaA, zan, zac, zal, zt, zg, zkA, zkn, zkc, zks, is, rfl, ⟨yok, by rcases hy' with h1 | h1; exact .inl h1; exact .inr ⟨h1.1, h1.2.1⟩, hyo6⟩, kk.trans hk6, hk6⟩
          refine wp_region_held_drew (S := fun w' => w'.cell? ⟨g1, 8, none⟩ = some (.slice (some ⟨yb, yo, none⟩) kn kc) ∧ w'.cell? ⟨yb, yo + q * 9, none⟩ = some (.int .i64 yk) ∧ w'.cell? ⟨yb, yo + q * 9 + 1, none⟩ = some (.string yn.u) ∧ w'.cell? ⟨yb, yo + q * 9 + 2, none⟩ = some (.string yn.l) ∧ w'.cell? ⟨yb, yo + q * 9 + 3, none⟩ = some (.string yn.p) ∧ w'.cell? ⟨yb, yo + q * 9 + 4, none⟩ = some (.slice ybA ybn ybc) ∧ w'.cell? ⟨yb, yo + q * 9 + 5, none⟩ = some (.slice yaA yan yac) ∧ w'.cell? ⟨yb, yo + q * 9 + 6, none⟩ = some (.string yt) ∧ w'.cell? ⟨yb, yo + q * 9 + 7, none⟩ = some (.string yg) ∧ w'.cell? ⟨yb, yo + q * 9 + 8, none⟩ = some (.slice ykA ykn ykc)) (by kernel_rfl) (MK.out _ (Kept.refl w5).drew) (fun hHeld => ?_)
          skip
          refine wpAnyH_take (i := 0) (oi := { dst := some 31, op := Op.fieldAddr 36 (Operand.tmp 3) 6, type := 0, pos := "info.go:123", after := #[], guard := none }) (v := ?vvw1) rfl (by kernel_rfl) (by kernel_rfl) (by kernel_rfl) (fun _ _ _ h => h) (Or.inl ⟨by rfl, ?hyw1⟩) (by assumption) ?restw1
          case hyw1 => (intro wS hSw; (try dsimp only at hSw); (repeat (obtain ⟨_, hSw⟩ := hSw)); go_simp; try (with_reducible rfl))
          try simp only [Act.put, List.setIfInBounds_toArray, List.set_cons_zero, List.set_cons_succ]
          refine wpAnyH_take (i := 1) (oi := { dst := some 32, op := Op.load 30 (Operand.tmp 31), type := 30, pos := "info.go:123", after := #[{ on := 0, ground := Ground.data }], guard := none }) (v := ?vvw2) rfl (by kernel_rfl) (by kernel_rfl) (by kernel_rfl) (fun _ _ _ h => h) (Or.inl ⟨by rfl, ?hyw2⟩) (by assumption) ?restw2
          case hyw2 => (intro wS hSw; (try dsimp only at hSw); (repeat (obtain ⟨_, hSw⟩ := hSw)); go_simp; try (with_reducible rfl))
          try simp only [Act.put, List.setIfInBounds_toArray, List.set_cons_zero, List.set_cons_succ]
          refine wpAnyH_take (i := 2) (oi := { dst := some 33, op := Op.move (Operand.tmp 8), type := 3, pos := "info.go:123", after := #[], guard := none }) (v := ?vvw3) rfl (by kernel_rfl) (by kernel_rfl) (by kernel_rfl) (fun _ _ _ h => h) (Or.inl ⟨by rfl, ?hyw3⟩) (by assumption) ?restw3
          case hyw3 => (intro wS hSw; (try dsimp only at hSw); (repeat (obtain ⟨_, hSw⟩ := hSw)); go_simp; try (with_reducible rfl))
          try simp only [Act.put, List.setIfInBounds_toArray, List.set_cons_zero, List.set_cons_succ]
          refine wpAnyH_take (i := 3) (oi := { dst := some 34, op := Op.indexAddr 30 (Operand.tmp 32) (Operand.tmp 33), type := 0, pos := "info.go:123", after := #[{ on := 1, ground := Ground.data }, { on := 2, ground := Ground.data }], guard := none }) (v := ?vvw4) rfl (by kernel_rfl) (by kernel_rfl) (by kernel_rfl) (fun _ _ _ h => h) (Or.inl ⟨by rfl, ?hyw4⟩) (by assumption) ?restw4
          case hyw4 => (intro wS hSw; (try dsimp only at hSw); (repeat (obtain ⟨_, hSw⟩ := hSw)); go_simp; try (with_reducible rfl))
          try simp only [Act.put, List.setIfInBounds_toArray, List.set_cons_zero, List.set_cons_succ]
          refine wpAnyH_take (i := 4) (oi := { dst := some 35, op := Op.load 36 (Operand.tmp 34), type := 36, pos := "info.go:123", after := #[{ on := 3, ground := Ground.data }], guard := none }) (v := ?vvw5) rfl (by kernel_rfl) (by kernel_rfl) (by kernel_rfl) (fun _ _ _ h => h) (Or.inl ⟨by rfl, ?hyw5⟩) (by assumption) ?restw5
          case hyw5 => (intro wS hSw; (try dsimp only at hSw); (repeat (obtain ⟨_, hSw⟩ := hSw)); go_simp; try (with_reducible rfl))
          try simp only [Act.put, List.setIfInBounds_toArray, List.set_cons_zero, List.set_cons_succ]
          refine wpAnyH_take (i := 5) (oi := { dst := some 36, op := Op.move (Operand.tmp 1), type := 30, pos := "info.go:123", after := #[], guard := none }) (v := ?vvw6) rfl (by kernel_rfl) (by kernel_rfl) (by kernel_rfl) (fun _ _ _ h => h) (Or.inl ⟨by rfl, ?hyw6⟩) (by assumption) ?restw6
          case hyw6 => (intro wS hSw; (try dsimp only at hSw); (repeat (obtain ⟨_, hSw⟩ := hSw)); go_simp; try (with_reducible rfl))
          try simp only [Act.put, List.setIfInBounds_toArray, List.set_cons_zero, List.set_cons_succ]
          refine wpAnyH_take (i := 6) (oi := { dst := some 37, op := Op.move (Operand.tmp 2), type := 45, pos := "info.go:123", after := #[], guard := none }) (v := ?vvw7) rfl (by kernel_rfl) (by kernel_rfl) (by kernel_rfl) (fun _ _ _ h => h) (Or.inl ⟨by rfl, ?hyw7⟩) (by assumption) ?restw7
          case hyw7 => (intro wS hSw; (try dsimp only at hSw); (repeat (obtain ⟨_, hSw⟩ := hSw)); go_simp; try (with_reducible rfl))
          try simp only [Act.put, List.setIfInBounds_toArray, List.set_cons_zero, List.set_cons_succ]
          refine wpAnyH_take (i := 7) (oi := { dst := some 38, op := Op.slice 45 (Operand.tmp 37) (some (Operand.const (Value.int IntKind.i64 1))) none none, type := 45, pos := "info.go:123", after := #[{ on := 6, ground := Ground.data }], guard := none }) (v := ?vvw8) rfl (by kernel_rfl) (by kernel_rfl) (by kernel_rfl) (fun _ _ _ h => h) (Or.inl ⟨by rfl, ?hyw8⟩) (by assumption) ?restw8
          case hyw8 => (intro wS hSw; (try dsimp only at hSw); (repeat (obtain ⟨_, hSw⟩ := hSw)); go_simp; try (with_reducible rfl))
          try simp only [Act.put, List.setIfInBounds_toArray, List.set_cons_zero, List.set_cons_succ]
          refine wpAnyH_ready (rs := [8, 12]) (by kernel_rfl) (by simp) ?_
          refine AllReadyH.cons (o := { dst := some 39, op := Op.call { callee := Callee.value (Operand.func 21), args := #[Operand.tmp 35, Operand.tmp 36, Operand.tmp 38], argTypes := #[36, 30, 45] }, type := 47, pos := "info.go:123", after := #[{ on := 4, ground := Ground.data }, { on := 5, ground := Ground.data }, { on := 7, ground := Ground.data }], guard := none }) rfl (fun K hK => ?stepw9) ?morew9
          case stepw9 =>
            go_simp
            go_at_call 21
            refine (HW.out _ (Kept.refl w5).drew).mono ?_
            rintro e w6 ⟨zk, zn, zbA, zbn, zbc, zbs, zaA, zan, zac, zal, zt, zg, zkA, zkn, zkc, zks, is, rfl, hz6, kw6, hk6⟩
            go_wp2_with fail
            refine hK.out _ _ (by refine MK.out _ ?_; repeat (first | (with_reducible exact Kept.refl _) | (with_reducible exact kw6) | (with_reducible refine Kept.drew ?_) | (with_reducible refine Kept.alloc ?_ _) | (with_reducible refine Kept.setCell ?_ (by first | exact Nat.le_refl _ | exact kw6.size) _))) (fun hHeld => ?_)
            clear hK K
            try simp only [Act.put, List.setIfInBounds_toArray, List.set_cons_zero, List.set_cons_succ]
            refine wpAnyH_take (i := 9) (oi := { dst := some 30, op := Op.move (Operand.tmp 39), type := 47, pos := "info.go:123", after := #[{ on := 8, ground := Ground.data }], guard := none }) (v := ?vvw10) rfl (by kernel_rfl) (by kernel_rfl) (by kernel_rfl) (fun _ _ _ h => h) (Or.inl ⟨by rfl, ?hyw10⟩) (by assumption) ?restw10
            case hyw10 => (intro wS hSw; (try dsimp only at hSw); (repeat (obtain ⟨_, hSw⟩ := hSw)); go_simp; try (with_reducible rfl))
            try simp only [Act.put, List.setIfInBounds_toArray, List.set_cons_zero, List.set_cons_succ]
            refine wpAnyH_take (i := 10) (oi := { dst := some 40, op := Op.extract (Operand.tmp 30) 0, type := 36, pos := "info.go:123", after := #[{ on := 9, ground := Ground.data }], guard := none }) (v := ?vvw11) rfl (by kernel_rfl) (by kernel_rfl) (by kernel_rfl) (fun _ _ _ h => h) (Or.inl ⟨by rfl, ?hyw11⟩) (by assumption) ?restw11
            case hyw11 => (intro wS hSw; (try dsimp only at hSw); (repeat (obtain ⟨_, hSw⟩ := hSw)); go_simp; try (with_reducible rfl))
            try simp only [Act.put, List.setIfInBounds_toArray, List.set_cons_zero, List.set_cons_succ]
            refine wpAnyH_take (i := 11) (oi := { dst := some 41, op := Op.extract (Operand.tmp 30) 1, type := 4, pos := "info.go:123", after := #[{ on := 9, ground := Ground.data }, { on := 13, ground := Ground.gcOnly Departure.lateStores }], guard := none }) (v := ?vvw12) rfl (by kernel_rfl) (by kernel_rfl) (by kernel_rfl) (fun _ _ _ h => h) (Or.inl ⟨by rfl, ?hyw12⟩) (by assumption) ?restw12
            case hyw12 => (intro wS hSw; (try dsimp only at hSw); (repeat (obtain ⟨_, hSw⟩ := hSw)); go_simp; try (with_reducible rfl))
            try simp only [Act.put, List.setIfInBounds_toArray, List.set_cons_zero, List.set_cons_succ]
            refine wpAnyH_ready (rs := [12]) (by kernel_rfl) (by simp) ?_
            refine AllReadyH.cons (o := { dst := some 10, op := Op.alloc 36, type := 0, pos := "info.go:123", after := #[], guard := none }) rfl (fun K hK => ?stepw13) ?morew13
            case stepw13 =>
              go_simp
              refine hK.out _ _ (by refine MK.out _ ?_; repeat (first | (with_reducible exact Kept.refl _) | (with_reducible exact kw6) | (with_reducible refine Kept.drew ?_) | (with_reducible refine Kept.alloc ?_ _) | (with_reducible refine Kept.setCell ?_ (by first | exact Nat.le_refl _ | exact kw6.size) _))) (fun hHeld => ?_)
              clear hK K
              try simp only [Act.put, List.setIfInBounds_toArray, List.set_cons_zero, List.set_cons_succ]
              refine wpAnyH_ready (rs := [13]) (by kernel_rfl) (by simp) ?_
              refine AllReadyH.cons (o := { dst := none, op := Op.store 36 (Operand.tmp 10) (Operand.tmp 40), type := 0, pos := "info.go:123", after := #[{ on := 12, ground := Ground.data }, { on := 10, ground := Ground.data }, { on := 8, ground := Ground.chain }, { on := 0, ground := Ground.phase }, { on := 1, ground := Ground.phase }, { on := 2, ground := Ground.phase }, { on := 3, ground := Ground.phase }, { on := 4, ground := Ground.phase }, { on := 5, ground := Ground.phase }, { on := 6, ground := Ground.phase }, { on := 7, ground := Ground.phase }, { on := 8, ground := Ground.phase }, { on := 9, ground := Ground.phase }, { on := 10, ground := Ground.phase }, { on := 11, ground := Ground.textOnly Departure.lateStores }, { on := 12, ground := Ground.phase }], guard := none }) rfl (fun K hK => ?stepw14) ?morew14
              case stepw14 =>
                go_simp
                refine hK.out _ _ (by refine MK.out _ ?_; repeat (first | (with_reducible exact Kept.refl _) | (with_reducible exact kw6) | (with_reducible refine Kept.drew ?_) | (with_reducible refine Kept.alloc ?_ _) | (with_reducible refine Kept.setCell ?_ (by first | exact Nat.le_refl _ | exact kw6.size) _))) (fun hHeld => ?_)
                clear hK K
                try simp only [Act.put, List.setIfInBounds_toArray, List.set_cons_zero, List.set_cons_succ]
                refine wpAnyH_take (i := 14) (oi := { dst := some 11, op := Op.assign (Operand.tmp 41), type := 4, pos := "info.go:123", after := #[{ on := 11, ground := Ground.data }, { on := 13, ground := Ground.chain }, { on := 0, ground := Ground.phase }, { on := 1, ground := Ground.phase }, { on := 2, ground := Ground.phase }, { on := 3, ground := Ground.phase }, { on := 4, ground := Ground.phase }, { on := 5, ground := Ground.phase }, { on := 6, ground := Ground.phase }, { on := 7, ground := Ground.phase }, { on := 8, ground := Ground.phase }, { on := 9, ground := Ground.phase }, { on := 10, ground := Ground.phase }, { on := 11, ground := Ground.phase }, { on := 12, ground := Ground.phase }, { on := 13, ground := Ground.phase }], guard := none }) (v := ?vvw15) rfl (by kernel_rfl) (by kernel_rfl) (by kernel_rfl) (fun _ _ _ h => h) (Or.inl ⟨by rfl, ?hyw15⟩) (by assumption) ?restw15
                case hyw15 => (intro wS hSw; (try dsimp only at hSw); (repeat (obtain ⟨_, hSw⟩ := hSw)); go_simp; try (with_reducible rfl))
                try simp only [Act.put, List.setIfInBounds_toArray, List.set_cons_zero, List.set_cons_succ]
                refine wpAnyH_done (by kernel_rfl) ?_ _
                go_wp2_with fail
                go_meet
                have hbn : Blk (w6.alloc (.cells #[.int .i64 zk, .string zn.u, .string zn.l, .string zn.p, .slice zbA zbn zbc, .slice zaA zan zac, .string zt, .string zg, .slice zkA zkn zkc] 36)) w6.heap.size #[.int .i64 zk, .string zn.u, .string zn.l, .string zn.p, .slice zbA zbn zbc, .slice zaA zan zac, .string zt, .string zg, .slice zkA zkn zkc] 36 := Blk.new w6 _ _
                exact ⟨Nd.mk zk zn zbA zbn zbc zbs zaA zan zac zal zt zg zkA zkn zkc zks, is, w6.heap.size, rfl, rfl, hbn, hz6.out.1.kept ((Kept.refl w6).alloc _), hz6.out.2.1, hz6.out.2.2.mono (fun b hb => hb.imp id (fun h => Nat.le_trans hz4 h)), kw6.alloc _⟩
              exact AllReadyH.nil
            exact AllReadyH.nil
          refine AllReadyH.cons (o := { dst := some 10, op := Op.alloc 36, type := 0, pos := "info.go:123", after := #[], guard := none }) rfl (fun K hK => ?stepw16) ?morew16
          case stepw16 =>
            go_simp
            refine hK.out _ _ (by refine MK.out _ ?_; repeat (first | (with_reducible exact Kept.refl _) | (with_reducible exact kw6) | (with_reducible refine Kept.drew ?_) | (with_reducible refine Kept.alloc ?_ _) | (with_reducible refine Kept.setCell ?_ (by first | exact Nat.le_refl _ | exact kw6.size) _))) (fun hHeld => ?_)
            clear hK K
            try simp only [Act.put, List.setIfInBounds_toArray, List.set_cons_zero, List.set_cons_succ]
            refine wpAnyH_ready (rs := [8]) (by kernel_rfl) (by simp) ?_
            refine AllReadyH.cons (o := { dst := some 39, op := Op.call { callee := Callee.value (Operand.func 21), args := #[Operand.tmp 35, Operand.tmp 36, Operand.tmp 38], argTypes := #[36, 30, 45] }, type := 47, pos := "info.go:123", after := #[{ on := 4, ground := Ground.data }, { on := 5, ground := Ground.data }, { on := 7, ground := Ground.data }], guard := none }) rfl (fun K hK => ?stepw17) ?morew17
            case stepw17 =>
              go_simp
              go_at_call 21
              refine (HW.out _ ((Kept.refl w5).drew.alloc _)).mono ?_
              rintro e w6 ⟨zk, zn, zbA, zbn, zbc, zbs, zaA, zan, zac, zal, zt, zg, zkA, zkn, zkc, zks, is, rfl, hz6, kw6, hk6⟩
              have bz : Blk w6 w5.heap.size znd 36 := Blk.kept (Blk.new w5.drew znd 36) hk6
              obtain ⟨z0, z1, z2, z3, z4, z5, z6, z7, z8, zf, zl⟩ := blk_znd bz
              go_wp2_with fail
              refine hK.out _ _ (by refine MK.out _ ?_; repeat (first | (with_reducible exact Kept.refl _) | (with_reducible exact kw6) | (with_reducible refine Kept.drew ?_) | (with_reducible refine Kept.alloc ?_ _) | (with_reducible refine Kept.setCell ?_ (by first | exact Nat.le_refl _ | exact kw6.size) _))) (fun hHeld => ?_)
              clear hK K
              try simp only [Act.put, List.setIfInBounds_toArray, List.set_cons_zero, List.set_cons_succ]
              refine wpAnyH_take (i := 9) (oi := { dst := some 30, op := Op.move (Operand.tmp 39), type := 47, pos := "info.go:123", after := #[{ on := 8, ground := Ground.data }], guard := none }) (v := ?vvw18) rfl (by kernel_rfl) (by kernel_rfl) (by kernel_rfl) (fun _ _ _ h => h) (Or.inl ⟨by rfl, ?hyw18⟩) (by assumption) ?restw18
              case hyw18 => (intro wS hSw; (try dsimp only at hSw); (repeat (obtain ⟨_, hSw⟩ := hSw)); go_simp; try (with_reducible rfl))
              try simp only [Act.put, List.setIfInBounds_toArray, List.set_cons_zero, List.set_cons_succ]
              refine wpAnyH_take (i := 10) (oi := { dst := some 40, op := Op.extract (Operand.tmp 30) 0, type := 36, pos := "info.go:123", after := #[{ on := 9, ground := Ground.data }], guard := none }) (v := ?vvw19) rfl (by kernel_rfl) (by kernel_rfl) (by kernel_rfl) (fun _ _ _ h => h) (Or.inl ⟨by rfl, ?hyw19⟩) (by assumption) ?restw19
              case hyw19 => (intro wS hSw; (try dsimp only at hSw); (repeat (obtain ⟨_, hSw⟩ := hSw)); go_simp; try (with_reducible rfl))
              try simp only [Act.put, List.setIfInBounds_toArray, List.set_cons_zero, List.set_cons_succ]
              refine wpAnyH_take (i := 11) (oi := { dst := some 41, op := Op.extract (Operand.tmp 30) 1, type := 4, pos := "info.go:123", after := #[{ on := 9, ground := Ground.data }, { on := 13, ground := Ground.gcOnly Departure.lateStores }], guard := none }) (v := ?vvw20) rfl (by kernel_rfl) (by kernel_rfl) (by kernel_rfl) (fun _ _ _ h => h) (Or.inl ⟨by rfl, ?hyw20⟩) (by assumption) ?restw20
              case hyw20 => (intro wS hSw; (try dsimp only at hSw); (repeat (obtain ⟨_, hSw⟩ := hSw)); go_simp; try (with_reducible rfl))
              try simp only [Act.put, List.setIfInBounds_toArray, List.set_cons_zero, List.set_cons_succ]
              refine wpAnyH_ready (rs := [13]) (by kernel_rfl) (by simp) ?_
              refine AllReadyH.cons (o := { dst := none, op := Op.store 36 (Operand.tmp 10) (Operand.tmp 40), type := 0, pos := "info.go:123", after := #[{ on := 12, ground := Ground.data }, { on := 10, ground := Ground.data }, { on := 8, ground := Ground.chain }, { on := 0, ground := Ground.phase }, { on := 1, ground := Ground.phase }, { on := 2, ground := Ground.phase }, { on := 3, ground := Ground.phase }, { on := 4, ground := Ground.phase }, { on := 5, ground := Ground.phase }, { on := 6, ground := Ground.phase }, { on := 7, ground := Ground.phase }, { on := 8, ground := Ground.phase }, { on := 9, ground := Ground.phase }, { on := 10, ground := Ground.phase }, { on := 11, ground := Ground.textOnly Departure.lateStores }, { on := 12, ground := Ground.phase }], guard := none }) rfl (fun K hK => ?stepw21) ?morew21
              case stepw21 =>
                go_simp
                refine hK.out _ _ (by refine MK.out _ ?_; repeat (first | (with_reducible exact Kept.refl _) | (with_reducible exact kw6) | (with_reducible refine Kept.drew ?_) | (with_reducible refine Kept.alloc ?_ _) | (with_reducible refine Kept.setCell ?_ (by first | exact Nat.le_refl _ | exact kw6.size) _))) (fun hHeld => ?_)
                clear hK K
                try simp only [Act.put, List.setIfInBounds_toArray, List.set_cons_zero, List.set_cons_succ]
                refine wpAnyH_take (i := 14) (oi := { dst := some 11, op := Op.assign (Operand.tmp 41), type := 4, pos := "info.go:123", after := #[{ on := 11, ground := Ground.data }, { on := 13, ground := Ground.chain }, { on := 0, ground := Ground.phase }, { on := 1, ground := Ground.phase }, { on := 2, ground := Ground.phase }, { on := 3, ground := Ground.phase }, { on := 4, ground := Ground.phase }, { on := 5, ground := Ground.phase }, { on := 6, ground := Ground.phase }, { on := 7, ground := Ground.phase }, { on := 8, ground := Ground.phase }, { on := 9, ground := Ground.phase }, { on := 10, ground := Ground.phase }, { on := 11, ground := Ground.phase }, { on := 12, ground := Ground.phase }, { on := 13, ground := Ground.phase }], guard := none }) (v := ?vvw22) rfl (by kernel_rfl) (by kernel_rfl) (by kernel_rfl) (fun _ _ _ h => h) (Or.inl ⟨by rfl, ?hyw22⟩) (by assumption) ?restw22
                case hyw22 => (intro wS hSw; (try dsimp only at hSw); (repeat (obtain ⟨_, hSw⟩ := hSw)); go_simp; try (with_reducible rfl))
                try simp only [Act.put, List.setIfInBounds_toArray, List.set_cons_zero, List.set_cons_succ]
                refine wpAnyH_done (by kernel_rfl) ?_ _
                have hbn := blk_setB9 bz (.int .i64 zk) (.string zn.u) (.string zn.l) (.string zn.p) (.slice zbA zbn zbc) (.slice zaA zan zac) (.string zt) (.string zg) (.slice zkA zkn zkc)
                have kwn := kept_setB9 kw6 (Nat.le_refl _) (.int .i64 zk) (.string zn.u) (.string zn.l) (.string zn.p) (.slice zbA zbn zbc) (.slice zaA zan zac) (.string zt) (.string zg) (.slice zkA zkn zkc)
                have okz := hz6.out.1.grown (grown_setB9 w6 w5.heap.size (.int .i64 zk) (.string zn.u) (.string zn.l) (.string zn.p) (.slice zbA zbn zbc) (.slice zaA zan zac) (.string zt) (.string zg) (.slice zkA zkn zkc)) (hz6.out.2.2.mono (fun b hb => by
                  intro e
                  injection e with e
                  have hb' : b < B ∨ w5.heap.size + 1 ≤ b := by simpa using hb
                  have := K4.size
                  omega))
                go_wp2_with fail
                go_meet
                exact ⟨Nd.mk zk zn zbA zbn zbc zbs zaA zan zac zal zt zg zkA zkn zkc zks, is, w5.heap.size, rfl, rfl, hbn, okz, hz6.out.2.1, hz6.out.2.2.mono (fun b hb => by
                  have hb' : b < B ∨ w5.heap.size + 1 ≤ b := by simpa using hb
                  omega), kwn⟩
              exact AllReadyH.nil
            exact AllReadyH.nil
          exact AllReadyH.nil
        case rest =>
          obtain ⟨y', is, g5, rfl, rfl, b5x, yok, hres, yout, k5⟩ := hcut
          obtain ⟨zk, zn, zbA, zbn, zbc, zbs, zaA, zan, zac, zal, zt, zg, zkA, zkn, zkc, zks⟩ := y'
          have b5 : Blk wc g5 #[.int .i64 zk, .string zn.u, .string zn.l, .string zn.p, .slice zbA zbn zbc, .slice zaA zan zac, .string zt, .string zg, .slice zkA zkn zkc] 36 := b5x
          have zc := z4'.kept k5
          have kc5 := K4.trans k5
          have bc5 := b4.kept k5
          clear b5x
          cases is
          · have hn : o = none := by
              rcases hres.out with h1 | h1
              · cases h1.2
              · rw [HO1.out]
                exact withQ_none hps HYT.out h1.1
            have HN := Lib.hid hn
            clear hn
            obtain ⟨z0, z1, z2, z3, z4, z5, z6, z7, z8, zf, zl⟩ := blk_znd zc
            go_wp2_with fail
            have bz := blk_setB9 zc (.int .i64 0) (.string ⟨#[]⟩) (.string ⟨#[]⟩) (.string ⟨#[]⟩) (.slice none 0 0) (.slice none 0 0) (.string ⟨#[]⟩) (.string ⟨#[]⟩) (.slice none 0 0)
            have kz := kept_setB9 kc5 hw2 (.int .i64 0) (.string ⟨#[]⟩) (.string ⟨#[]⟩) (.string ⟨#[]⟩) (.slice none 0 0) (.slice none 0 0) (.string ⟨#[]⟩) (.string ⟨#[]⟩) (.slice none 0 0)
            have gz := grown_setB9 wc g2 (.int .i64 0) (.string ⟨#[]⟩) (.string ⟨#[]⟩) (.string ⟨#[]⟩) (.slice none 0 0) (.slice none 0 0) (.string ⟨#[]⟩) (.string ⟨#[]⟩) (.slice none 0 0)
            change bodyPost _ _ _ _ _ (setB9 wc g2 (.int .i64 0) (.string ⟨#[]⟩) (.string ⟨#[]⟩) (.string ⟨#[]⟩) (.slice none 0 0) (.slice none 0 0) (.string ⟨#[]⟩) (.string ⟨#[]⟩) (.slice none 0 0))
            generalize setB9 wc g2 (.int .i64 0) (.string ⟨#[]⟩) (.string ⟨#[]⟩) (.string ⟨#[]⟩) (.slice none 0 0) (.slice none 0 0) (.string ⟨#[]⟩) (.string ⟨#[]⟩) (.slice none 0 0) = W at bz kz gz ⊢
            have cz := bz.cell
            have d0 := cz 0
            have d1 := cz 1
            have d2 := cz 2
            have d3 := cz 3
            have d4 := cz 4
            have d5 := cz 5
            have d6 := cz 6
            have d7 := cz 7
            have d8 := cz 8
            refine bodyPost_ret (v := .tuple #[.agg #[.int .i64 0, .string ⟨#[]⟩, .string ⟨#[]⟩, .string ⟨#[]⟩, .slice none 0 0, .slice none 0 0, .string ⟨#[]⟩, .string ⟨#[]⟩, .slice none 0 0], .bool false]) (by simp [results, Try.results21, go_sem, d0, d1, d2, d3, d4, d5, d6, d7, d8]) rfl ?_
            exact ⟨Nd.none_, false, rfl, Nd.none_ok _, .inr ⟨HN.out, rfl, rfl⟩, kz, Nd.none_out _⟩
          · have hs1 : withT (Nd.mk yk yn ybA ybn ybc ybs yaA yan yac yal yt yg ykA ykn ykc yks).tr (l.map Nd.tr) ps = some (Nd.mk zk zn zbA zbn zbc zbs zaA zan zac zal zt zg zkA zkn zkc zks).tr := by
              rcases hres.out with h1 | h1
              · exact h1.1
              · cases h1.2
            have hn : o = some (setKids (Tr.mk k n bs al t g (ks.map Nd.tr)) ((ks.map Nd.tr).take q ++ [(Nd.mk zk zn zbA zbn zbc zbs zaA zan zac zal zt zg zkA zkn zkc zks).tr] ++ (ks.map Nd.tr).drop (q + 1))) := by
              rw [HO1.out]
              exact withQ_some hps HYT.out hs1
            have HN := Lib.hid hn
            clear hn hs1
            have cb := b5.cell
            have e0 := cb 0
            have e1 := cb 1
            have e2 := cb 2
            have e3 := cb 3
            have e4 := cb 4
            have e5 := cb 5
            have e6 := cb 6
            have e7 := cb 7
            have e8 := cb 8
            have kn1 := (Kept.refl wc).alloc (.cells #[.int .i64 zk, .string zn.u, .string zn.l, .string zn.p, .slice zbA zbn zbc, .slice zaA zan zac, .string zt, .string zg, .slice zkA zkn zkc] 36)
            have hsl := Sl.litg (w := wc) (t := 36) (g := wc.heap.size) (xs := [Nd.mk zk zn zbA zbn zbc zbs zaA zan zac zal zt zg zkA zkn zkc zks].flatMap Nd.cells) (s := 9) (n := 1) rfl rfl (by omega)
            go_wp2_with fail
            go_meet
            refine ⟨_, 1, 1, [Nd.mk zk zn zbA zbn zbc zbs zaA zan zac zal zt zg zkA zkn zkc zks], rfl, ⟨hsl, ?_⟩, by omega, ?_, fun h0 => ?_, ?_, bc5.kept kn1, zc.kept kn1, kc5.trans kn1⟩
            · intro x hx
              rw [List.mem_singleton.1 hx]
              exact yok.kept kn1
            · unfold Hid
              rw [if_neg (by omega)]
              exact HN.out
            · omega
            · intro x hx
              rw [List.mem_singleton.1 hx]
              exact yout
    case rest =>
      obtain ⟨A', n', c', l', rfl, hl', hn', HRES, htx', hou', b5, z5, k5⟩ := hcut
      obtain ⟨w6, hw6⟩ : ∃ z, z = wc := ⟨_, rfl⟩
      subst hw6
      have hz6 : Wz ≤ w6.heap.size := by
        have := z5.lt
        omega
      have hkN5 := hkN.kept k5
      have c8 : w6.cell? ⟨g1, 8, none⟩ = some (.slice kA kn kc) := b5.cell 8
      have hcut1 := run_cut_h appT_nd kA kn kc q (by omega)
      obtain ⟨C2, hC2⟩ : ∃ C2, cutA kA kc (q + 1) 9 = C2 := ⟨_, rfl⟩
      have hcut2 : ∀ wv : World, (Instr.slice 30 (.slice kA kn kc) (some (.int .i64 ((q : Int) + 1))) none none).run Try.prog wv = .ok (.slice C2 (kn - (q + 1)) (kc - (q + 1))) wv := by
        intro wv
        have h1 := run_cut_l appT_nd kA kn kc (q + 1) (by omega) wv
        rw [hC2] at h1
        exact h1
      have hsum : IntKind.i64.wrap ((q : Int) + 1) = (q : Int) + 1 := IntWalk.i64_in _ (by omega)
      have hqc : (q : Int) ≤ kc := by omega
      have hprt := fun W (kk : Kept w6 W) => parts_with hkN5.1 hl'.1 hqk kk
      rw [hC2] at hprt
      have HPRT := Lib.hid hprt
      clear hprt hC2 hT1
      go_upto_region 11 with fail
      go_cut [] (fun wx => ∃ (FA : Option Addr) (fn fc : Nat) (FL : List Nd), Blk wx g1 (ndc k n bA bn bc aA an ac t g FA fn fc) 36 ∧ Blk wx g2 znd 36 ∧ Nds wx FA fn fc FL ∧ fn ≤ 300 ∧ (∀ y ∈ FL, y.out (fun b => b < B ∨ Wz ≤ b)) ∧ (∀ b o, 0 < fn → FA = some ⟨b, o, none⟩ → Wz ≤ b) ∧
        Hid (o = some (setKids (Tr.mk k n bs al t g (ks.map Nd.tr)) (if pn = 1 then mergedT (FL.map Nd.tr) else FL.map Nd.tr))) ∧ (pn = 1 → ∀ y ∈ FL, Txts 140737488355328 y.tr) ∧ Kept w wx)
      case first =>
        have bl5 := b5.lt
        have bf5 := b5.frozen
        go_region_with (go_at_call 29; refine (concatNds_any _ _ _ [((kA, q, kc), (ks.take q).flatMap Nd.cells), ((A', n', c'), l'.flatMap Nd.cells), ((C2, kn - (q + 1), kc - (q + 1)), (ks.drop (q + 1)).flatMap Nd.cells)] _ ?_ ?_ ?_).mono ?_; (exact (Sl.litg (by simp) rfl (by omega)).drew); (exact HPRT.out _ (((Kept.refl _).alloc _).drew)); (simp [plen]; omega); (rintro e w7 ⟨A2, c2, rfl, hs2, hlow2, hk2⟩; have kw7 : Kept w6 w7 := (((Kept.refl _).alloc _).drew).trans hk2; have b7 := b5.kept kw7; have e8 : w7.cell? ⟨g1, 8, none⟩ = some (.slice kA kn kc) := b7.cell 8; have bf7 := b7.frozen; have bl7 := b7.lt))
        all_goals
          have hl7 : ∀ b o, 0 < plen [((kA, q, kc), (ks.take q).flatMap Nd.cells), ((A', n', c'), l'.flatMap Nd.cells), ((C2, kn - (q + 1), kc - (q + 1)), (ks.drop (q + 1)).flatMap Nd.cells)] → A2 = some ⟨b, o, none⟩ → w6.heap.size ≤ b := fun b o hn e => Nat.le_trans (((Kept.refl w6).alloc _).drew).size (hlow2 b o hn e)
          obtain ⟨N, hN⟩ : ∃ N, plen [((kA, q, kc), (ks.take q).flatMap Nd.cells), ((A', n', c'), l'.flatMap Nd.cells), ((C2, kn - (q + 1), kc - (q + 1)), (ks.drop (q + 1)).flatMap Nd.cells)] = N := ⟨_, rfl⟩
          have hN2 : N = q + (n' + (kn - (q + 1))) := by
            rw [← hN]
            simp [plen]
          rw [hN] at hs2 hl7 ⊢
          clear hlow2 hN
          go_wp2_with fail
          go_meet
          have hfl : Sl w7 9 A2 N c2 ((ks.take q ++ l' ++ ks.drop (q + 1)).flatMap Nd.cells) := by
            simpa [List.flatMap_append] using hs2
          have far : ∀ x : Nd, x.ok w6 → x.out (fun b => b < B ∨ Wz ≤ b) → x.ok (w7.setCell ⟨g1, 8, none⟩ (.slice A2 N c2)) := fun x h1 h2 => (h1.kept kw7).grown (grown_set1 w7 g1 8 _) (h2.mono (fun b hb => by
            intro e
            injection e with e
            omega))
          have hmem : ∀ x ∈ ks.take q ++ l' ++ ks.drop (q + 1), x ∈ ks ∨ x ∈ l' := by
            intro x hx
            rcases List.mem_append.1 hx with hx | hx
            · rcases List.mem_append.1 hx with hx | hx
              · exact .inl (List.mem_of_mem_take hx)
              · exact .inr hx
            · exact .inl (List.mem_of_mem_drop hx)
          have hout7 : ∀ x ∈ ks.take q ++ l' ++ ks.drop (q + 1), x.out (fun b => b < B ∨ Wz ≤ b) := by
            intro x hx
            rcases hmem x hx with hx | hx
            · exact (HXO.out.2.2.2 x hx).mono (fun b hb => .inl hb)
            · exact hou' x hx
          refine ⟨A2, N, c2, ks.take q ++ l' ++ ks.drop (q + 1), by simpa using b7.set 8 (.slice A2 N c2), (z5.kept kw7).far (p := ⟨g1, 8, none⟩) (fun h' => h12 h'.symm) _, ⟨hfl.grown0 (grown_set1 w7 g1 8 _) (fun b o hn e => ?_), ?_⟩, by omega, hout7, fun b o hn e => Nat.le_trans hz6 (hl7 b o hn e), ?_, ?_, (k5.trans kw7).setCell (p := ⟨g1, 8, none⟩) hw1 _⟩
          · have := hl7 b o hn e
            intro e'
            injection e' with e'
            omega
          · intro x hx
            refine far x ?_ (hout7 x hx)
            rcases hmem x hx with hx | hx
            · exact hkN5.2 x hx
            · exact hl'.2 x hx
          · unfold Hid
            rw [List.map_append, List.map_append, List.map_take, List.map_drop]
            exact HRES.out
          · intro h1 x hx
            rcases hmem x hx with hx | hx
            · have h2 := HOK.out.2
              rw [Nd.tr_mk] at h2
              cases h2 with
              | mk b1 b2 => exact b2 _ (List.mem_map.2 ⟨x, hx, rfl⟩)
            · exact htx' h1 x hx
      case rest =>
        obtain ⟨FA, fn, fc, FL, b8, z8x, hF, hfn, hFo, hFl, hFR, hFt, k8⟩ := hcut
        by_cases hp1' : pn = 1
        · have hR : o = some (setKids (Tr.mk k n bs al t g (ks.map Nd.tr)) (mergedT (FL.map Nd.tr))) := by rw [hFR.out, if_pos hp1']
          have hsum2 : sumS (FL.map Nd.tr) ≤ 1152921504606846976 := by
            have h1 := txts_sum (b := 140737488355328) (l := FL.map Nd.tr) (by
              intro x hx
              obtain ⟨y, hy, rfl⟩ := List.mem_map.1 hx
              exact hFt hp1' y hy)
            have h2 := hF.len
            rw [List.length_map, h2] at h1
            have h3 : fn * 140737488355328 ≤ 300 * 140737488355328 := Nat.mul_le_mul_right _ hfn
            omega
          have HM := Lib.hid (merged_any FA fn fc FL wc hF (by omega) hsum2)
          have HR := Lib.hid hR
          have l6 : (pn : Int) = 1 := by omega
          have g8 : wc.cell? ⟨g1, 8, none⟩ = some (.slice FA fn fc) := b8.cell 8
          clear hR hsum2
          go_wp2_with fail
          refine HM.out.mono ?_
          rintro e w9 ⟨MA, mn, mc, O, rfl, hN9, hO9, k9, horg, hlow9⟩
          have b9 := b8.kept k9
          have e8 : w9.cell? ⟨g1, 8, none⟩ = some (.slice FA fn fc) := b9.cell 8
          have bf9 := b9.frozen
          have bl9 := b9.lt
          have HRO : Hid (o = some (setKids (Tr.mk k n bs al t g (ks.map Nd.tr)) (O.map Nd.tr))) := by
            unfold Hid
            rw [HR.out, hO9]
          have hOo : ∀ x ∈ O, x.out (fun b => b < B ∨ Wz ≤ b) := by
            intro x hx
            rcases horg x hx with h1 | ⟨t', rfl⟩
            · exact hFo x h1
            · exact Nd.text_out _ _
          have hOl : ∀ b o, 0 < mn → MA = some ⟨b, o, none⟩ → Wz ≤ b := fun b o hn e => by
            have h1 := hlow9 b o hn e
            have h2 := z8x.lt
            omega
          have b10 : Blk (w9.setCell ⟨g1, 8, none⟩ (.slice MA mn mc)) g1 (ndc k n bA bn bc aA an ac t g MA mn mc) 36 := by simpa using b9.set 8 (.slice MA mn mc)
          have z10 := (z8x.kept k9).far (p := ⟨g1, 8, none⟩) (fun h' => h12 h'.symm) (.slice MA mn mc)
          have k10 := (k8.trans k9).setCell (p := ⟨g1, 8, none⟩) hw1 (.slice MA mn mc)
          have hF10 : Nds (w9.setCell ⟨g1, 8, none⟩ (.slice MA mn mc)) MA mn mc O := ⟨hN9.1.grown0 (grown_set1 w9 g1 8 _) (fun b o hn e => by
              have := hOl b o hn e
              intro e'
              injection e' with e'
              omega), fun x hx => (hN9.2 x hx).grown (grown_set1 w9 g1 8 _) ((hOo x hx).mono (fun b hb => by
              intro e
              injection e with e
              omega))⟩
          clear HM hO9 horg hlow9 hN9 b8 z8x hF k8 k9 hFR
          go_upto_region 14 with fail
          generalize w9.setCell ⟨g1, 8, none⟩ (.slice MA mn mc) = w10 at b10 z10 k10 hF10 ⊢
          clear e8 bf9 bl9 b9 g8
          have fcl := b10.cell
          have f0 := fcl 0
          have f1 := fcl 1
          have f2 := fcl 2
          have f3 := fcl 3
          have f4 := fcl 4
          have f5 := fcl 5
          have f6 := fcl 6
          have f7 := fcl 7
          have f8 := fcl 8
          obtain ⟨z0, z1, z2, z3, z4, z5, z6, z7, z8, zf, zl⟩ := blk_znd z10
          have hbW := hb.kept k10
          have haW := ha.kept k10
          go_wp2_with fail
          have bz := blk_setB9 z10 (.int .i64 k) (.string n.u) (.string n.l) (.string n.p) (.slice bA bn bc) (.slice aA an ac) (.string t) (.string g) (.slice MA mn mc)
          have kz := kept_setB9 k10 hw2 (.int .i64 k) (.string n.u) (.string n.l) (.string n.p) (.slice bA bn bc) (.slice aA an ac) (.string t) (.string g) (.slice MA mn mc)
          have gz := grown_setB9 w10 g2 (.int .i64 k) (.string n.u) (.string n.l) (.string n.p) (.slice bA bn bc) (.slice aA an ac) (.string t) (.string g) (.slice MA mn mc)
          change bodyPost _ _ _ _ _ (setB9 w10 g2 (.int .i64 k) (.string n.u) (.string n.l) (.string n.p) (.slice bA bn bc) (.slice aA an ac) (.string t) (.string g) (.slice MA mn mc))
          generalize setB9 w10 g2 (.int .i64 k) (.string n.u) (.string n.l) (.string n.p) (.slice bA bn bc) (.slice aA an ac) (.string t) (.string g) (.slice MA mn mc) = W at bz kz gz ⊢
          have cz := bz.cell
          have d0 := cz 0
          have d1 := cz 1
          have d2 := cz 2
          have d3 := cz 3
          have d4 := cz 4
          have d5 := cz 5
          have d6 := cz 6
          have d7 := cz 7
          have d8 := cz 8
          refine bodyPost_ret (v := .tuple #[.agg #[.int .i64 k, .string n.u, .string n.l, .string n.p, .slice bA bn bc, .slice aA an ac, .string t, .string g, .slice MA mn mc], .bool true]) (by simp [results, Try.results21, go_sem, d0, d1, d2, d3, d4, d5, d6, d7, d8]) rfl ?_
          have far : ∀ x : Nd, x.out (fun b => b < B ∨ Wz ≤ b) → x.ok w10 → x.ok W := fun x h1 h2 => h2.grown gz (h1.mono (fun b hb => by
            intro e
            injection e with e
            omega))
          have hb2 := hbW.grown0 gz (fun b o hn e => by
            have := HXO.out.1 b o hn e
            intro e'
            injection e' with e'
            omega)
          have ha2 := haW.grown0 gz (fun b o hn e => by
            have := HXO.out.2.1 b o hn e
            intro e'
            injection e' with e'
            omega)
          have hk2 := hF10.1.grown0 gz (fun b o hn e => by
            have := hOl b o hn e
            intro e'
            injection e' with e'
            omega)
          have hWz : w.heap.size ≤ Wz := by omega
          refine ⟨Nd.mk k n bA bn bc bs aA an ac al t g MA mn mc O, true, rfl, .mk hb2 ha2 hk2 (fun x hx => far x (hOo x hx) (hF10.2 x hx)), .inl ⟨?_, rfl⟩, kz, .mk ?_ ?_ ?_ ?_⟩
          · rw [HRO.out, Nd.tr_mk]
            rfl
          · intro b o hn e
            exact .inl (HXO.out.1 b o hn e)
          · intro b o hn e
            exact .inl (HXO.out.2.1 b o hn e)
          · intro b o hn e
            have := hOl b o hn e
            exact .inr (by omega)
          · intro x hx
            exact (hOo x hx).mono (fun b hb => by omega)
        · have l6 : ¬ (pn : Int) = 1 := by omega
          have hR : o = some (setKids (Tr.mk k n bs al t g (ks.map Nd.tr)) (FL.map Nd.tr)) := by rw [hFR.out, if_neg hp1']
          have HR := Lib.hid hR
          clear hR
          have fcl := b8.cell
          have f0 := fcl 0
          have f1 := fcl 1
          have f2 := fcl 2
          have f3 := fcl 3
          have f4 := fcl 4
          have f5 := fcl 5
          have f6 := fcl 6
          have f7 := fcl 7
          have f8 := fcl 8
          obtain ⟨z0, z1, z2, z3, z4, z5, z6, z7, z8, zf, zl⟩ := blk_znd z8x
          have hbW := hb.kept k8
          have haW := ha.kept k8
          go_wp2_with fail
          have bz := blk_setB9 z8x (.int .i64 k) (.string n.u) (.string n.l) (.string n.p) (.slice bA bn bc) (.slice aA an ac) (.string t) (.string g) (.slice FA fn fc)
          have kz := kept_setB9 k8 hw2 (.int .i64 k) (.string n.u) (.string n.l) (.string n.p) (.slice bA bn bc) (.slice aA an ac) (.string t) (.string g) (.slice FA fn fc)
          have gz := grown_setB9 wc g2 (.int .i64 k) (.string n.u) (.string n.l) (.string n.p) (.slice bA bn bc) (.slice aA an ac) (.string t) (.string g) (.slice FA fn fc)
          change bodyPost _ _ _ _ _ (setB9 wc g2 (.int .i64 k) (.string n.u) (.string n.l) (.string n.p) (.slice bA bn bc) (.slice aA an ac) (.string t) (.string g) (.slice FA fn fc))
          generalize setB9 wc g2 (.int .i64 k) (.string n.u) (.string n.l) (.string n.p) (.slice bA bn bc) (.slice aA an ac) (.string t) (.string g) (.slice FA fn fc) = W at bz kz gz ⊢
          have cz := bz.cell
          have d0 := cz 0
          have d1 := cz 1
          have d2 := cz 2
          have d3 := cz 3
          have d4 := cz 4
          have d5 := cz 5
          have d6 := cz 6
          have d7 := cz 7
          have d8 := cz 8
          refine bodyPost_ret (v := .tuple #[.agg #[.int .i64 k, .string n.u, .string n.l, .string n.p, .slice bA bn bc, .slice aA an ac, .string t, .string g, .slice FA fn fc], .bool true]) (by simp [results, Try.results21, go_sem, d0, d1, d2, d3, d4, d5, d6, d7, d8]) rfl ?_
          have far : ∀ x : Nd, x.out (fun b => b < B ∨ Wz ≤ b) → x.ok wc → x.ok W := fun x h1 h2 => h2.grown gz (h1.mono (fun b hb => by
            intro e
            injection e with e
            omega))
          have hb2 := hbW.grown0 gz (fun b o hn e => by
            have := HXO.out.1 b o hn e
            intro e'
            injection e' with e'
            omega)
          have ha2 := haW.grown0 gz (fun b o hn e => by
            have := HXO.out.2.1 b o hn e
            intro e'
            injection e' with e'
            omega)
          have hk2 := hF.1.grown0 gz (fun b o hn e => by
            have := hFl b o hn e
            intro e'
            injection e' with e'
            omega)
          have hWz : w.heap.size ≤ Wz := by omega
          refine ⟨Nd.mk k n bA bn bc bs aA an ac al t g FA fn fc FL, true, rfl, .mk hb2 ha2 hk2 (fun x hx => far x (hFo x hx) (hF.2 x hx)), .inl ⟨?_, rfl⟩, kz, .mk ?_ ?_ ?_ ?_⟩
          · rw [HR.out, Nd.tr_mk]
            rfl
          · intro b o hn e
            exact .inl (HXO.out.1 b o hn e)
          · intro b o hn e
            exact .inl (HXO.out.2.1 b o hn e)
          · intro b o hn e
            have := hFl b o hn e
            exact .inr (by omega)
          · intro x hx
            exact (hFo x hx).mono (fun b hb => by omega)
end Go.Proofs.Ytnlncamiaddhfaa
