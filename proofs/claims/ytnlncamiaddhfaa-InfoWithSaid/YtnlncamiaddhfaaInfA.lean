/- The element that a path leads to: the program's At and the document's, walked. -/
import Derived.Test.YtnlncamiaddhfaaInfK
namespace Go.Proofs.Ytnlncamiaddhfaa
open Go.RowKit
attribute [local go_sem ↓] Go.wp_at_zero Go.wp_at_succ

def atT : Tr → List Int → Option Tr
  | x, [] => some x
  | x, s :: ps => match kidT x.kids s with
    | none => none
    | some q => match x.kids[q]? with
      | none => none
      | some y => atT y ps
theorem atT_none {x : Tr} {s : Int} {ps : List Int} (h : kidT x.kids s = none) : atT x (s :: ps) = none := by
  rw [atT, h]
theorem atT_some {x y : Tr} {s : Int} {ps : List Int} {q : Nat} (h : kidT x.kids s = some q) (hy : x.kids[q]? = some y) : atT x (s :: ps) = atT y ps := by
  rw [atT, h]
  simp only [hy]
theorem drop_at {α : Type} {l : List α} {k : Nat} {x : α} (h : l[k]? = some x) : l.drop k = x :: l.drop (k + 1) := by
  obtain ⟨hk, rfl⟩ := List.getElem?_eq_some_iff.1 h
  exact List.drop_eq_getElem_cons hk
theorem atT_small : ∀ {ps : List Int} {x y : Tr}, atT x ps = some y → Small x → Small y
  | [], x, y, h, hs => by
    rw [atT] at h
    injection h with h
    exact h ▸ hs
  | s :: ps, x, y, h, hs => by
    cases hk : kidT x.kids s with
    | none =>
      rw [atT_none hk] at h
      cases h
    | some q =>
      obtain ⟨hq, z, hz, _⟩ := kid_bd hk
      rw [atT_some hk hz] at h
      refine atT_small h ?_
      cases hs with
      | mk h1 h2 h3 h4 => exact h4 _ (List.mem_of_getElem? hz)
/-- What At answers. -/
def AtOf (o : Option Tr) (B : Nat) (w : World) (e : Ending) (w' : World) : Prop :=
  ∃ (y : Nd) (b : Bool), e = .returned (.tuple #[y.val, .bool b]) ∧ y.ok w' ∧ ((o = some y.tr ∧ b = true) ∨ (o = none ∧ b = false ∧ y = Nd.none_)) ∧ Kept w w' ∧ y.out (fun b => b < B)
theorem cell_setB9 {w : World} {g b o : Nat} {v v0 v1 v2 v3 v4 v5 v6 v7 v8 : Value} (h : w.cell? ⟨b, o, none⟩ = some v) (hne : b ≠ g) : (setB9 w g v0 v1 v2 v3 v4 v5 v6 v7 v8).cell? ⟨b, o, none⟩ = some v :=
  grown_cell (grown_setB9 w g v0 v1 v2 v3 v4 v5 v6 v7 v8) h (by intro e; injection e with e; exact hne e)
set_option maxHeartbeats 8000000 in
theorem at_any (x : Nd) (PA : Option Addr) (pn pc : Nat) (ps : List Int) (B : Nat) (w : World) (hxo : x.out (fun b => b < B)) (hB : B ≤ w.heap.size) (hok : x.ok w) (hsm : Small x.tr) (hp : Sl w 1 PA pn pc (ps.map (Value.int .i64))) (hpb : ∀ z ∈ ps, -9223372036854775808 ≤ z ∧ z ≤ 9223372036854775807) :
    Calls Try.prog 17 #[x.val, .slice PA pn pc] w fun e w' => AtOf (atT x.tr ps) B w e w' := by
  have HPB := Lib.hid hpb
  have hpl := hp.llen1
  have HPL := Lib.hid hpl
  have hpc := hp.cap
  have hpm := hp.max
  have HX := Lib.hid (show _ ∧ _ from ⟨hok, hxo⟩)
  have HS := Lib.hid hsm
  clear hok hsm hpb hpl hxo
  obtain ⟨o, ho⟩ : ∃ o, atT x.tr ps = o := ⟨_, rfl⟩
  rw [ho]
  have HO := Lib.hid ho
  clear ho
  obtain ⟨k, n, bA, bn, bc, bs, aA, an, ac, al, t, g, kA, kn, kc, ks⟩ := x
  show Calls Try.prog 17 #[.agg #[.int .i64 k, .string n.u, .string n.l, .string n.p, .slice bA bn bc, .slice aA an ac, .string t, .string g, .slice kA kn kc], .slice PA pn pc] w _
  have k1 := ((Kept.refl w).alloc (.cells (ndc k n bA bn bc aA an ac t g kA kn kc) 36)).alloc (.cells znd 36)
  have b1 := (Blk.new w (ndc k n bA bn bc aA an ac t g kA kn kc) 36).alloc (.cells znd 36)
  have z1 := Blk.new (w.alloc (.cells (ndc k n bA bn bc aA an ac t g kA kn kc) 36)) znd 36
  go_enter Try.func17, Try.ntmps17
  go_upto_region 1 with fail
  generalize (w.alloc (.cells (ndc k n bA bn bc aA an ac t g kA kn kc) 36)).alloc (.cells znd 36) = w1 at k1 b1 z1 ⊢
  have z1' : Blk w1 (w.heap.size + 1) znd 36 := by simpa using z1
  clear z1
  obtain ⟨g1, hg1⟩ : ∃ g1, w.heap.size = g1 := ⟨_, rfl⟩
  obtain ⟨g2, hg2⟩ : ∃ g2, w.heap.size + 1 = g2 := ⟨_, rfl⟩
  rw [hg2] at z1' ⊢
  rw [hg1] at b1 ⊢
  have hw1 : w.heap.size ≤ g1 := by omega
  have hw2 : w.heap.size ≤ g2 := by omega
  have h12 : g1 ≠ g2 := by omega
  have HG := Lib.hid hg1
  clear hg1 hg2
  go_wp2_with fail
  go_loopw [12] (fun i wr => ∃ (j : Nat) (yk : Int) (yn : Nm) (ybA : Option Addr) (ybn ybc : Nat) (ybs : List Bd) (yaA : Option Addr) (yan yac : Nat) (yal : List Att) (yt yg : ByteArray) (ykA : Option Addr) (ykn ykc : Nat) (yks : List Nd), j ≤ pn ∧ i = .int .i64 j ∧
      Blk wr g1 (ndc yk yn ybA ybn ybc yaA yan yac yt yg ykA ykn ykc) 36 ∧ Blk wr g2 znd 36 ∧ Hid ((Nd.mk yk yn ybA ybn ybc ybs yaA yan yac yal yt yg ykA ykn ykc yks).ok wr ∧ (Nd.mk yk yn ybA ybn ybc ybs yaA yan yac yal yt yg ykA ykn ykc yks).out (fun b => b < B) ∧
        Small (Nd.mk yk yn ybA ybn ybc ybs yaA yan yac yal yt yg ykA ykn ykc yks).tr ∧ atT (Nd.mk yk yn ybA ybn ybc ybs yaA yan yac yal yt yg ykA ykn ykc yks).tr (ps.drop j) = o) ∧ Kept w wr) (fun i _ => pn - (intOf i).toNat)
  case atStart => exact ⟨0, k, n, bA, bn, bc, bs, aA, an, ac, al, t, g, kA, kn, kc, ks, Nat.zero_le _, rfl, b1, z1', ⟨HX.out.1.kept k1, HX.out.2, HS.out, HO.out⟩, k1⟩
  case round =>
    obtain ⟨j, yk, yn, ybA, ybn, ybc, ybs, yaA, yan, yac, yal, yt, yg, ykA, ykn, ykc, yks, hj, rfl, by_, bz, hy, hkept⟩ := hrel
    have bc := by_.cell
    have c0 : wr.cell? ⟨g1, 0, none⟩ = some (.int .i64 yk) := bc 0
    have c1 : wr.cell? ⟨g1, 1, none⟩ = some (.string yn.u) := bc 1
    have c2 : wr.cell? ⟨g1, 2, none⟩ = some (.string yn.l) := bc 2
    have c3 : wr.cell? ⟨g1, 3, none⟩ = some (.string yn.p) := bc 3
    have c4 : wr.cell? ⟨g1, 4, none⟩ = some (.slice ybA ybn ybc) := bc 4
    have c5 : wr.cell? ⟨g1, 5, none⟩ = some (.slice yaA yan yac) := bc 5
    have c6 : wr.cell? ⟨g1, 6, none⟩ = some (.string yt) := bc 6
    have c7 : wr.cell? ⟨g1, 7, none⟩ = some (.string yg) := bc 7
    have c8 : wr.cell? ⟨g1, 8, none⟩ = some (.slice ykA ykn ykc) := bc 8
    have gl := by_.lt
    clear bc
    by_cases hlt : j < pn
    · obtain ⟨pb, po, s, rfl, hs, p0, hpb⟩ := (hp.kept hkept).oneb hlt
      have hdr := drop_at hs
      have hsb := HPB.out s (List.mem_of_getElem? hs)
      obtain ⟨hyk, hyo, hys, hya⟩ := hy.out
      rw [hdr] at hya
      obtain ⟨_, _, hyS, hyN⟩ := hyk.parts
      have hylen := hyS.llen Nd.cells_len (by omega)
      have hy100 : ykn ≤ 100 := by
        rw [Nd.tr_mk] at hys
        cases hys with
        | mk h1 h2 h3 h4 => rw [List.length_map, hylen] at h3; exact h3
      have HKD := Lib.hid (kid_any yk yn ybA ybn ybc yaA yan yac yt yg ykA ykn ykc yks s wr ⟨hyS, hyN⟩ (by omega) hsb)
      have hkids : (Nd.mk yk yn ybA ybn ybc ybs yaA yan yac yal yt yg ykA ykn ykc yks).tr.kids = yks.map Nd.tr := by rw [Nd.tr_mk]; rfl
      rw [← hkids] at HKD
      obtain ⟨oq, hoq⟩ : ∃ oq, kidT (Nd.mk yk yn ybA ybn ybc ybs yaA yan yac yal yt yg ykA ykn ykc yks).tr.kids s = oq := ⟨_, rfl⟩
      rw [hoq] at HKD
      have HYA := Lib.hid hya
      have HQ := Lib.hid hoq
      have HKI := Lib.hid hkids
      have HLE := Lib.hid hylen
      clear hs hdr hsb hyk hyo hys hya hyS hyN hylen hoq hkids
      go_wp2_with fail
      refine HKD.out.mono ?_
      rintro e w2 ⟨⟨q, b, rfl, hq⟩, k2⟩
      have by2 := by_.kept k2
      have bz2 := bz.kept k2
      have kk2 := hkept.trans k2
      clear c0 c1 c2 c3 c4 c5 c6 c7 c8 p0
      rcases hq with ⟨rfl, rfl⟩ | ⟨rfl, rfl, rfl⟩
      · have hqd := kid_bd HQ.out
        rw [HKI.out, List.length_map, HLE.out] at hqd
        obtain ⟨_, _, hyS, hyN⟩ := (hy.out.1.kept k2).parts
        obtain ⟨zb, zo, zk, zn, zbA, zbn, zbc, zbs, zaA, zan, zac, zal, zt, zg, zkA, zkn, zkc, zks, rfl, hz, y0, y1, y2, y3, y4, y5, y6, y7, y8, hzb⟩ := cells9 hyS (k := q) hqd.1
        have hzok := hyN _ (List.mem_of_getElem? hz)
        have hzout := hy.out.2.1.parts.2.2.2 _ (List.mem_of_getElem? hz)
        have hzt := map_get (f := Nd.tr) hz
        rw [← HKI.out] at hzt
        have hzs : Small (Nd.mk zk zn zbA zbn zbc zbs zaA zan zac zal zt zg zkA zkn zkc zks).tr := by
          have h1 := hy.out.2.2.1
          cases h0 : (Nd.mk yk yn ybA ybn ybc ybs yaA yan yac yal yt yg (some ⟨zb, zo, none⟩) ykn ykc yks).tr with
          | mk a1 a2 a3 a4 a5 a6 a7 =>
            rw [h0] at h1 hzt
            cases h1 with
            | mk b1 b2 b3 b4 => exact b4 _ (List.mem_of_getElem? hzt)
        have hza := HYA.out
        rw [atT_some HQ.out hzt] at hza
        have HZ := Lib.hid (show _ ∧ _ ∧ _ ∧ _ from ⟨hzok, hzout, hzs, hza⟩)
        have c8 : w2.cell? ⟨g1, 8, none⟩ = some (.slice (some ⟨zb, zo, none⟩) ykn ykc) := by2.cell 8
        have c0 : w2.cell? ⟨g1, 0, none⟩ = some (.int .i64 yk) := by2.cell 0
        have c1 : w2.cell? ⟨g1, 1, none⟩ = some (.string yn.u) := by2.cell 1
        have c2 : w2.cell? ⟨g1, 2, none⟩ = some (.string yn.l) := by2.cell 2
        have c3 : w2.cell? ⟨g1, 3, none⟩ = some (.string yn.p) := by2.cell 3
        have c4 : w2.cell? ⟨g1, 4, none⟩ = some (.slice ybA ybn ybc) := by2.cell 4
        have c5 : w2.cell? ⟨g1, 5, none⟩ = some (.slice yaA yan yac) := by2.cell 5
        have c6 : w2.cell? ⟨g1, 6, none⟩ = some (.string yt) := by2.cell 6
        have c7 : w2.cell? ⟨g1, 7, none⟩ = some (.string yg) := by2.cell 7
        have l1 : (q : Int) < ykn := by omega
        have l2 : (0 : Int) ≤ q := by omega
        have gf := by2.frozen
        have gl2 := by2.lt
        clear hzok hzout hzt hzs hza hyS hyN hz
        go_upto_region 8 with fail
        have b3 := blk_setB9 by2 (.int .i64 zk) (.string zn.u) (.string zn.l) (.string zn.p) (.slice zbA zbn zbc) (.slice zaA zan zac) (.string zt) (.string zg) (.slice zkA zkn zkc)
        have k3 := kept_setB9 kk2 hw1 (.int .i64 zk) (.string zn.u) (.string zn.l) (.string zn.p) (.slice zbA zbn zbc) (.slice zaA zan zac) (.string zt) (.string zg) (.slice zkA zkn zkc)
        have g3 := grown_setB9 w2 g1 (.int .i64 zk) (.string zn.u) (.string zn.l) (.string zn.p) (.slice zbA zbn zbc) (.slice zaA zan zac) (.string zt) (.string zg) (.slice zkA zkn zkc)
        have zok := HZ.out.1.grown g3 (HZ.out.2.1.mono (fun b hb => by
          intro e
          injection e with e
          omega))
        have bz3 := bz2.grown g3 (by intro e; injection e with e; exact h12 e.symm)
        change Code.wp _ _ _ _ (setB9 w2 g1 (.int .i64 zk) (.string zn.u) (.string zn.l) (.string zn.p) (.slice zbA zbn zbc) (.slice zaA zan zac) (.string zt) (.string zg) (.slice zkA zkn zkc))
        generalize setB9 w2 g1 (.int .i64 zk) (.string zn.u) (.string zn.l) (.string zn.p) (.slice zbA zbn zbc) (.slice zaA zan zac) (.string zt) (.string zg) (.slice zkA zkn zkc) = w3 at b3 k3 zok bz3 ⊢
        clear c8 c0 c1 c2 c3 c4 c5 c6 c7 gf y0 y1 y2 y3 y4 y5 y6 y7 y8
        go_wp2_with fail
        go_roundw
        case rel => exact ⟨j + 1, zk, zn, zbA, zbn, zbc, zbs, zaA, zan, zac, zal, zt, zg, zkA, zkn, zkc, zks, hlt, by go_num, b3, bz3, ⟨zok, HZ.out.2⟩, k3⟩
        case measure =>
          simp [intOf]
          omega
      · obtain ⟨z0, z1, z2, z3, z4, z5, z6, z7, z8, zf, zl⟩ := blk_znd bz2
        have hno := HYA.out
        rw [atT_none HQ.out] at hno
        have HNO := Lib.hid hno
        clear hno
        go_wp2_with fail
        have bq := blk_setB9 bz2 (.int .i64 0) (.string ⟨#[]⟩) (.string ⟨#[]⟩) (.string ⟨#[]⟩) (.slice none 0 0) (.slice none 0 0) (.string ⟨#[]⟩) (.string ⟨#[]⟩) (.slice none 0 0)
        have kz := kept_setB9 kk2 hw2 (.int .i64 0) (.string ⟨#[]⟩) (.string ⟨#[]⟩) (.string ⟨#[]⟩) (.slice none 0 0) (.slice none 0 0) (.string ⟨#[]⟩) (.string ⟨#[]⟩) (.slice none 0 0)
        change bodyPost _ _ _ _ _ (setB9 w2 g2 (.int .i64 0) (.string ⟨#[]⟩) (.string ⟨#[]⟩) (.string ⟨#[]⟩) (.slice none 0 0) (.slice none 0 0) (.string ⟨#[]⟩) (.string ⟨#[]⟩) (.slice none 0 0))
        generalize setB9 w2 g2 (.int .i64 0) (.string ⟨#[]⟩) (.string ⟨#[]⟩) (.string ⟨#[]⟩) (.slice none 0 0) (.slice none 0 0) (.string ⟨#[]⟩) (.string ⟨#[]⟩) (.slice none 0 0) = W at bq kz ⊢
        have cz := bq.cell
        have d0 := cz 0
        have d1 := cz 1
        have d2 := cz 2
        have d3 := cz 3
        have d4 := cz 4
        have d5 := cz 5
        have d6 := cz 6
        have d7 := cz 7
        have d8 := cz 8
        exact bodyPost_ret (v := .tuple #[.agg #[.int .i64 0, .string ⟨#[]⟩, .string ⟨#[]⟩, .string ⟨#[]⟩, .slice none 0 0, .slice none 0 0, .string ⟨#[]⟩, .string ⟨#[]⟩, .slice none 0 0], .bool false]) (by simp [results, Try.results17, go_sem, d0, d1, d2, d3, d4, d5, d6, d7, d8]) rfl ⟨Nd.none_, false, rfl, Nd.none_ok _, .inr ⟨HNO.out.symm, rfl, rfl⟩, kz, Nd.none_out _⟩
    · obtain rfl : j = pn := by omega
      have hend := hy.out.2.2.2
      rw [List.drop_eq_nil_of_le (by rw [HPL.out]; exact Nat.le_refl _), atT] at hend
      have HE := Lib.hid hend
      obtain ⟨z0, z1, z2, z3, z4, z5, z6, z7, z8, zf, zl⟩ := blk_znd bz
      clear hend
      go_wp2_with fail
      have g3 := grown_setB9 wr g2 (.int .i64 yk) (.string yn.u) (.string yn.l) (.string yn.p) (.slice ybA ybn ybc) (.slice yaA yan yac) (.string yt) (.string yg) (.slice ykA ykn ykc)
      have b3 := blk_setB9 bz (.int .i64 yk) (.string yn.u) (.string yn.l) (.string yn.p) (.slice ybA ybn ybc) (.slice yaA yan yac) (.string yt) (.string yg) (.slice ykA ykn ykc)
      have k3 := kept_setB9 hkept hw2 (.int .i64 yk) (.string yn.u) (.string yn.l) (.string yn.p) (.slice ybA ybn ybc) (.slice yaA yan yac) (.string yt) (.string yg) (.slice ykA ykn ykc)
      have yok := hy.out.1.grown g3 (hy.out.2.1.mono (fun b hb => by
        intro e
        injection e with e
        omega))
      change bodyPost _ _ _ _ _ (setB9 wr g2 (.int .i64 yk) (.string yn.u) (.string yn.l) (.string yn.p) (.slice ybA ybn ybc) (.slice yaA yan yac) (.string yt) (.string yg) (.slice ykA ykn ykc))
      generalize setB9 wr g2 (.int .i64 yk) (.string yn.u) (.string yn.l) (.string yn.p) (.slice ybA ybn ybc) (.slice yaA yan yac) (.string yt) (.string yg) (.slice ykA ykn ykc) = W at b3 k3 yok ⊢
      have cz := b3.cell
      have d0 := cz 0
      have d1 := cz 1
      have d2 := cz 2
      have d3 := cz 3
      have d4 := cz 4
      have d5 := cz 5
      have d6 := cz 6
      have d7 := cz 7
      have d8 := cz 8
      exact bodyPost_ret (v := .tuple #[.agg #[.int .i64 yk, .string yn.u, .string yn.l, .string yn.p, .slice ybA ybn ybc, .slice yaA yan yac, .string yt, .string yg, .slice ykA ykn ykc], .bool true]) (by simp [results, Try.results17, go_sem, d0, d1, d2, d3, d4, d5, d6, d7, d8]) rfl ⟨Nd.mk yk yn ybA ybn ybc ybs yaA yan yac yal yt yg ykA ykn ykc yks, true, rfl, yok, .inl ⟨HE.out.symm, rfl⟩, k3, hy.out.2.1⟩
set_option maxHeartbeats 8000000 in
theorem rat_any : ∀ (ps : List Int) (x : Nd) (PA : Option Addr) (pn pc : Nat) (B : Nat) (w : World), x.out (fun b => b < B) → B ≤ w.heap.size → x.ok w → Small x.tr → Sl w 1 PA pn pc (ps.map (Value.int .i64)) → (∀ z ∈ ps, -9223372036854775808 ≤ z ∧ z ≤ 9223372036854775807) →
    Calls Try.prog 18 #[x.val, .slice PA pn pc] w fun e w' => AtOf (atT x.tr ps) B w e w' := by
  intro ps
  induction ps with
  | nil =>
    intro x PA pn pc B w hxo hB hok hsm hp hpb
    obtain rfl : pn = 0 := by simpa using hp.llen1.symm
    have HX := Lib.hid (show _ ∧ _ from ⟨hok, hxo⟩)
    obtain ⟨o, ho⟩ : ∃ o, atT x.tr [] = o := ⟨_, rfl⟩
    rw [ho]
    rw [atT] at ho
    have HO := Lib.hid ho
    clear hok hsm hpb ho hxo
    obtain ⟨k, n, bA, bn, bc, bs, aA, an, ac, al, t, g, kA, kn, kc, ks⟩ := x
    show Calls Try.prog 18 #[.agg #[.int .i64 k, .string n.u, .string n.l, .string n.p, .slice bA bn bc, .slice aA an ac, .string t, .string g, .slice kA kn kc], .slice PA 0 pc] w _
    have k1 := ((Kept.refl w).alloc (.cells (ndc k n bA bn bc aA an ac t g kA kn kc) 28)).alloc (.cells znd 28)
    have b1 := (Blk.new w (ndc k n bA bn bc aA an ac t g kA kn kc) 28).alloc (.cells znd 28)
    have z1 := Blk.new (w.alloc (.cells (ndc k n bA bn bc aA an ac t g kA kn kc) 28)) znd 28
    go_enter Try.func18, Try.ntmps18
    go_upto_region 1 with fail
    generalize (w.alloc (.cells (ndc k n bA bn bc aA an ac t g kA kn kc) 28)).alloc (.cells znd 28) = w1 at k1 b1 z1 ⊢
    have z1' : Blk w1 (w.heap.size + 1) znd 28 := by simpa using z1
    clear z1
    obtain ⟨g1, hg1⟩ : ∃ g1, w.heap.size = g1 := ⟨_, rfl⟩
    obtain ⟨g2, hg2⟩ : ∃ g2, w.heap.size + 1 = g2 := ⟨_, rfl⟩
    rw [hg2] at z1' ⊢
    rw [hg1] at b1 ⊢
    have hw2 : w.heap.size ≤ g2 := by omega
    have HG2 := Lib.hid (show w.heap.size < g2 by omega)
    have h12 : g1 ≠ g2 := by omega
    clear hg1 hg2
    have bf := b1.cell
    have c0 : w1.cell? ⟨g1, 0, none⟩ = some (.int .i64 k) := bf 0
    have c1 : w1.cell? ⟨g1, 1, none⟩ = some (.string n.u) := bf 1
    have c2 : w1.cell? ⟨g1, 2, none⟩ = some (.string n.l) := bf 2
    have c3 : w1.cell? ⟨g1, 3, none⟩ = some (.string n.p) := bf 3
    have c4 : w1.cell? ⟨g1, 4, none⟩ = some (.slice bA bn bc) := bf 4
    have c5 : w1.cell? ⟨g1, 5, none⟩ = some (.slice aA an ac) := bf 5
    have c6 : w1.cell? ⟨g1, 6, none⟩ = some (.string t) := bf 6
    have c7 : w1.cell? ⟨g1, 7, none⟩ = some (.string g) := bf 7
    have c8 : w1.cell? ⟨g1, 8, none⟩ = some (.slice kA kn kc) := bf 8
    have gl := b1.lt
    obtain ⟨z0, z1, z2, z3, z4, z5, z6, z7, z8, zf, zl⟩ := blk_znd z1'
    clear bf
    go_wp2_with fail
    have g3 := grown_setB9 w1 g2 (.int .i64 k) (.string n.u) (.string n.l) (.string n.p) (.slice bA bn bc) (.slice aA an ac) (.string t) (.string g) (.slice kA kn kc)
    have b3 := blk_setB9 z1' (.int .i64 k) (.string n.u) (.string n.l) (.string n.p) (.slice bA bn bc) (.slice aA an ac) (.string t) (.string g) (.slice kA kn kc)
    have k3 := kept_setB9 k1 hw2 (.int .i64 k) (.string n.u) (.string n.l) (.string n.p) (.slice bA bn bc) (.slice aA an ac) (.string t) (.string g) (.slice kA kn kc)
    have yok := (HX.out.1.kept k1).grown g3 (HX.out.2.mono (fun b hb => by
      intro e
      injection e with e
      have := HG2.out
      omega))
    change bodyPost _ _ _ _ _ (setB9 w1 g2 (.int .i64 k) (.string n.u) (.string n.l) (.string n.p) (.slice bA bn bc) (.slice aA an ac) (.string t) (.string g) (.slice kA kn kc))
    generalize setB9 w1 g2 (.int .i64 k) (.string n.u) (.string n.l) (.string n.p) (.slice bA bn bc) (.slice aA an ac) (.string t) (.string g) (.slice kA kn kc) = W at b3 k3 yok ⊢
    have cz := b3.cell
    have d0 := cz 0
    have d1 := cz 1
    have d2 := cz 2
    have d3 := cz 3
    have d4 := cz 4
    have d5 := cz 5
    have d6 := cz 6
    have d7 := cz 7
    have d8 := cz 8
    exact bodyPost_ret (v := .tuple #[.agg #[.int .i64 k, .string n.u, .string n.l, .string n.p, .slice bA bn bc, .slice aA an ac, .string t, .string g, .slice kA kn kc], .bool true]) (by simp [results, Try.results18, go_sem, d0, d1, d2, d3, d4, d5, d6, d7, d8]) rfl ⟨Nd.mk k n bA bn bc bs aA an ac al t g kA kn kc ks, true, rfl, yok, .inl ⟨HO.out.symm, rfl⟩, k3, HX.out.2⟩
  | cons s ps ih =>
    intro x PA pn pc B w hxo hB hok hsm hp hpb
    have IH := Lib.hid ih
    have hpl := hp.llen1
    have hpc := hp.cap
    have hpm := hp.max
    have HPB := Lib.hid hpb
    have HX := Lib.hid (show _ ∧ _ from ⟨hok, hxo⟩)
    have HS := Lib.hid hsm
    have hp1 : 0 < pn := by simp at hpl; omega
    obtain ⟨pb, po, s', rfl, hs', p0, hpb'⟩ := hp.oneb (k := 0) hp1
    obtain rfl : s = s' := by simpa using hs'
    obtain ⟨o, ho⟩ : ∃ o, atT x.tr (s :: ps) = o := ⟨_, rfl⟩
    rw [ho]
    have HO := Lib.hid ho
    have hsb := hpb s (by simp)
    clear hok hsm hpb ho ih hs' hpl hxo
    obtain ⟨k, n, bA, bn, bc, bs, aA, an, ac, al, t, g, kA, kn, kc, ks⟩ := x
    obtain ⟨_, _, hS, hN⟩ := HX.out.1.parts
    have hlen := hS.llen Nd.cells_len (by omega)
    have h100 : kn ≤ 100 := by
      have hs := HS.out
      rw [Nd.tr_mk] at hs
      cases hs with
      | mk h1 h2 h3 h4 => rw [List.length_map, hlen] at h3; exact h3
    have hkids : (Nd.mk k n bA bn bc bs aA an ac al t g kA kn kc ks).tr.kids = ks.map Nd.tr := by rw [Nd.tr_mk]; rfl
    have HKD := Lib.hid (fun w' (kk : Kept w w') => rkid_any k n bA bn bc aA an ac t g kA kn kc ks s w' ((show Nds w kA kn kc ks from ⟨hS, hN⟩).kept kk) (by omega) hsb)
    rw [← hkids] at HKD
    obtain ⟨oq, hoq⟩ : ∃ oq, kidT (Nd.mk k n bA bn bc bs aA an ac al t g kA kn kc ks).tr.kids s = oq := ⟨_, rfl⟩
    rw [hoq] at HKD
    have HQ := Lib.hid hoq
    have HKI := Lib.hid hkids
    have HLE := Lib.hid hlen
    clear hoq hkids hS hN hlen hsb
    show Calls Try.prog 18 #[.agg #[.int .i64 k, .string n.u, .string n.l, .string n.p, .slice bA bn bc, .slice aA an ac, .string t, .string g, .slice kA kn kc], .slice (some ⟨pb, po, none⟩) pn pc] w _
    have k1 := ((Kept.refl w).alloc (.cells (ndc k n bA bn bc aA an ac t g kA kn kc) 28)).alloc (.cells znd 28)
    have b1 := (Blk.new w (ndc k n bA bn bc aA an ac t g kA kn kc) 28).alloc (.cells znd 28)
    have z1 := Blk.new (w.alloc (.cells (ndc k n bA bn bc aA an ac t g kA kn kc) 28)) znd 28
    go_enter Try.func18, Try.ntmps18
    go_upto_region 1 with fail
    generalize (w.alloc (.cells (ndc k n bA bn bc aA an ac t g kA kn kc) 28)).alloc (.cells znd 28) = w1 at k1 b1 z1 ⊢
    have z1' : Blk w1 (w.heap.size + 1) znd 28 := by simpa using z1
    clear z1
    obtain ⟨g1, hg1⟩ : ∃ g1, w.heap.size = g1 := ⟨_, rfl⟩
    obtain ⟨g2, hg2⟩ : ∃ g2, w.heap.size + 1 = g2 := ⟨_, rfl⟩
    rw [hg2] at z1' ⊢
    rw [hg1] at b1 ⊢
    have hw2 : w.heap.size ≤ g2 := by omega
    have HG2 := Lib.hid (show w.heap.size < g2 by omega)
    have h12 : g1 ≠ g2 := by omega
    clear hg1 hg2
    have bf := b1.cell
    have c0 : w1.cell? ⟨g1, 0, none⟩ = some (.int .i64 k) := bf 0
    have c1 : w1.cell? ⟨g1, 1, none⟩ = some (.string n.u) := bf 1
    have c2 : w1.cell? ⟨g1, 2, none⟩ = some (.string n.l) := bf 2
    have c3 : w1.cell? ⟨g1, 3, none⟩ = some (.string n.p) := bf 3
    have c4 : w1.cell? ⟨g1, 4, none⟩ = some (.slice bA bn bc) := bf 4
    have c5 : w1.cell? ⟨g1, 5, none⟩ = some (.slice aA an ac) := bf 5
    have c6 : w1.cell? ⟨g1, 6, none⟩ = some (.string t) := bf 6
    have c7 : w1.cell? ⟨g1, 7, none⟩ = some (.string g) := bf 7
    have c8 : w1.cell? ⟨g1, 8, none⟩ = some (.slice kA kn kc) := bf 8
    have gl := b1.lt
    have p0' : w1.cell? ⟨pb, po, none⟩ = some (.int .i64 s) := k1.cell p0
    have l1 : ¬ ((pn : Int) = 0) := by omega
    have l2 : ¬ (pn = 0) := by omega
    clear bf p0
    have MK : Hid (∀ w', Kept w1 w' → w'.cell? ⟨g1, 0, none⟩ = some (.int .i64 k) ∧ w'.cell? ⟨g1, 1, none⟩ = some (.string n.u) ∧ w'.cell? ⟨g1, 2, none⟩ = some (.string n.l) ∧ w'.cell? ⟨g1, 3, none⟩ = some (.string n.p) ∧ w'.cell? ⟨g1, 4, none⟩ = some (.slice bA bn bc) ∧ w'.cell? ⟨g1, 5, none⟩ = some (.slice aA an ac) ∧ w'.cell? ⟨g1, 6, none⟩ = some (.string t) ∧ w'.cell? ⟨g1, 7, none⟩ = some (.string g) ∧ w'.cell? ⟨g1, 8, none⟩ = some (.slice kA kn kc) ∧ w'.cell? ⟨pb, po, none⟩ = some (.int .i64 s)) :=
      fun w' kk => ⟨kk.cell c0, kk.cell c1, kk.cell c2, kk.cell c3, kk.cell c4, kk.cell c5, kk.cell c6, kk.cell c7, kk.cell c8, kk.cell p0'⟩
    go_upto_region 3 with fail
    go_region_held3 (fun w' => w'.cell? ⟨g1, 0, none⟩ = some (.int .i64 k) ∧ w'.cell? ⟨g1, 1, none⟩ = some (.string n.u) ∧ w'.cell? ⟨g1, 2, none⟩ = some (.string n.l) ∧ w'.cell? ⟨g1, 3, none⟩ = some (.string n.p) ∧ w'.cell? ⟨g1, 4, none⟩ = some (.slice bA bn bc) ∧ w'.cell? ⟨g1, 5, none⟩ = some (.slice aA an ac) ∧ w'.cell? ⟨g1, 6, none⟩ = some (.string t) ∧ w'.cell? ⟨g1, 7, none⟩ = some (.string g) ∧ w'.cell? ⟨g1, 8, none⟩ = some (.slice kA kn kc) ∧ w'.cell? ⟨pb, po, none⟩ = some (.int .i64 s))
      (first | exact MK.out _ (Kept.refl w1).drew | exact MK.out _ (Kept.trans (Kept.refl w1).drew hk4))
      (first | (go_at_call 20; refine (HKD.out _ k1.drew).mono ?_; rintro e w4 ⟨rfl, hk4⟩))
    have k14 : Kept w1 w4 := Kept.trans (Kept.refl w1).drew hk4
    have K4 := k1.trans k14
    have b4 := b1.kept k14
    have z4 := z1'.kept k14
    clear c0 c1 c2 c3 c4 c5 c6 c7 c8 p0' MK hk4
    cases oq with
    | none =>
      simp only [kidI]
      obtain ⟨y0, y1, y2, y3, y4, y5, y6, y7, y8, zf, zl⟩ := blk_znd z4
      have hno := HO.out
      rw [atT_none HQ.out] at hno
      have HNO := Lib.hid hno
      clear hno
      go_wp2_with fail
      have bq := blk_setB9 z4 (.int .i64 0) (.string ⟨#[]⟩) (.string ⟨#[]⟩) (.string ⟨#[]⟩) (.slice none 0 0) (.slice none 0 0) (.string ⟨#[]⟩) (.string ⟨#[]⟩) (.slice none 0 0)
      have kz := kept_setB9 K4 hw2 (.int .i64 0) (.string ⟨#[]⟩) (.string ⟨#[]⟩) (.string ⟨#[]⟩) (.slice none 0 0) (.slice none 0 0) (.string ⟨#[]⟩) (.string ⟨#[]⟩) (.slice none 0 0)
      change bodyPost _ _ _ _ _ (setB9 w4 g2 (.int .i64 0) (.string ⟨#[]⟩) (.string ⟨#[]⟩) (.string ⟨#[]⟩) (.slice none 0 0) (.slice none 0 0) (.string ⟨#[]⟩) (.string ⟨#[]⟩) (.slice none 0 0))
      generalize setB9 w4 g2 (.int .i64 0) (.string ⟨#[]⟩) (.string ⟨#[]⟩) (.string ⟨#[]⟩) (.slice none 0 0) (.slice none 0 0) (.string ⟨#[]⟩) (.string ⟨#[]⟩) (.slice none 0 0) = W at bq kz ⊢
      have cz := bq.cell
      have d0 := cz 0
      have d1 := cz 1
      have d2 := cz 2
      have d3 := cz 3
      have d4 := cz 4
      have d5 := cz 5
      have d6 := cz 6
      have d7 := cz 7
      have d8 := cz 8
      exact bodyPost_ret (v := .tuple #[.agg #[.int .i64 0, .string ⟨#[]⟩, .string ⟨#[]⟩, .string ⟨#[]⟩, .slice none 0 0, .slice none 0 0, .string ⟨#[]⟩, .string ⟨#[]⟩, .slice none 0 0], .bool false]) (by simp [results, Try.results18, go_sem, d0, d1, d2, d3, d4, d5, d6, d7, d8]) rfl ⟨Nd.none_, false, rfl, Nd.none_ok _, .inr ⟨HNO.out.symm, rfl, rfl⟩, kz, Nd.none_out _⟩
    | some q =>
      simp only [kidI]
      have hqd := kid_bd HQ.out
      rw [HKI.out, List.length_map, HLE.out] at hqd
      obtain ⟨_, _, hyS, hyN⟩ := (HX.out.1.kept K4).parts
      obtain ⟨zb, zo, zk, zn, zbA, zbn, zbc, zbs, zaA, zan, zac, zal, zt, zg, zkA, zkn, zkc, zks, rfl, hz, y0, y1, y2, y3, y4, y5, y6, y7, y8, hzb⟩ := cells9 hyS (k := q) hqd.1
      have hzok := hyN _ (List.mem_of_getElem? hz)
      have hzout := HX.out.2.parts.2.2.2 _ (List.mem_of_getElem? hz)
      have hzt := map_get (f := Nd.tr) hz
      rw [← HKI.out] at hzt
      have hzs : Small (Nd.mk zk zn zbA zbn zbc zbs zaA zan zac zal zt zg zkA zkn zkc zks).tr := by
        have h1 := HS.out
        cases h0 : (Nd.mk k n bA bn bc bs aA an ac al t g (some ⟨zb, zo, none⟩) kn kc ks).tr with
        | mk a1 a2 a3 a4 a5 a6 a7 =>
          rw [h0] at h1 hzt
          cases h1 with
          | mk b1 b2 b3 b4 => exact b4 _ (List.mem_of_getElem? hzt)
      have hza := HO.out
      rw [atT_some HQ.out hzt] at hza
      have hcut : ∀ wv : World, (Instr.slice 45 (.slice (some ⟨pb, po, none⟩) pn pc) (some (.int .i64 1)) none none).run Try.prog wv = .ok (.slice (cutA (some ⟨pb, po, none⟩) pc 1 1) (pn - 1) (pc - 1)) wv := run_cut_l appT_int (some ⟨pb, po, none⟩) pn pc 1 (by omega)
      have hpt := (hp.kept K4).from1 (i := 1) (by omega)
      obtain ⟨CA, hCA⟩ : ∃ CA, cutA (some ⟨pb, po, none⟩) pc 1 1 = CA := ⟨_, rfl⟩
      rw [hCA] at hcut hpt
      have hpt' : Sl w4 1 CA (pn - 1) (pc - 1) (ps.map (Value.int .i64)) := hpt
      have HR : Hid (∀ w', Kept w4 w' → Calls Try.prog 18 #[.agg #[.int .i64 zk, .string zn.u, .string zn.l, .string zn.p, .slice zbA zbn zbc, .slice zaA zan zac, .string zt, .string zg, .slice zkA zkn zkc], .slice CA (pn - 1) (pc - 1)] w' fun e w'' =>
          ∃ vk vn vbA vbn vbc vbs vaA van vac val vt vg vkA vkn vkc vks is, e = .returned (.tuple #[.agg #[.int .i64 vk, .string (Nm.u vn), .string (Nm.l vn), .string (Nm.p vn), .slice vbA vbn vbc, .slice vaA van vac, .string vt, .string vg, .slice vkA vkn vkc], .bool is]) ∧
            Hid ((Nd.mk vk vn vbA vbn vbc vbs vaA van vac val vt vg vkA vkn vkc vks).ok w'' ∧ ((o = some (Nd.mk vk vn vbA vbn vbc vbs vaA van vac val vt vg vkA vkn vkc vks).tr ∧ is = true) ∨ (o = none ∧ is = false ∧ Nd.mk vk vn vbA vbn vbc vbs vaA van vac val vt vg vkA vkn vkc vks = Nd.none_)) ∧ (Nd.mk vk vn vbA vbn vbc vbs vaA van vac val vt vg vkA vkn vkc vks).out (fun b => b < B)) ∧ Kept w' w'') := by
        intro w' kk
        refine (IH.out (Nd.mk zk zn zbA zbn zbc zbs zaA zan zac zal zt zg zkA zkn zkc zks) CA (pn - 1) (pc - 1) B w' hzout (by have := K4.size; have := kk.size; omega) (hzok.kept kk) hzs (hpt'.kept kk) (fun z hz => HPB.out z (List.mem_cons_of_mem _ hz))).mono ?_
        rintro e w2 ⟨⟨vk, vn, vbA, vbn, vbc, vbs, vaA, van, vac, val, vt, vg, vkA, vkn, vkc, vks⟩, is, rfl, h1, h2, h3, h4⟩
        rw [hza] at h2
        exact ⟨vk, vn, vbA, vbn, vbc, vbs, vaA, van, vac, val, vt, vg, vkA, vkn, vkc, vks, is, rfl, ⟨h1, h2, h4⟩, h3⟩
      have c8 : w4.cell? ⟨g1, 8, none⟩ = some (.slice (some ⟨zb, zo, none⟩) kn kc) := b4.cell 8
      have l3 : (q : Int) < kn := by omega
      have l4 : (0 : Int) ≤ q := by omega
      have l5 : ¬ (q : Int) < 0 := by omega
      have q1 : (1 : Int) ≤ pn := by omega
      clear hzok hzout hzt hzs hza hyS hyN hz hpt hpt' hCA hqd
      have MK : Hid (∀ w', Kept w4 w' → w'.cell? ⟨g1, 8, none⟩ = some (.slice (some ⟨zb, zo, none⟩) kn kc) ∧ w'.cell? ⟨zb, zo + q * 9, none⟩ = some (.int .i64 zk) ∧ w'.cell? ⟨zb, zo + q * 9 + 1, none⟩ = some (.string zn.u) ∧ w'.cell? ⟨zb, zo + q * 9 + 2, none⟩ = some (.string zn.l) ∧ w'.cell? ⟨zb, zo + q * 9 + 3, none⟩ = some (.string zn.p) ∧ w'.cell? ⟨zb, zo + q * 9 + 4, none⟩ = some (.slice zbA zbn zbc) ∧ w'.cell? ⟨zb, zo + q * 9 + 5, none⟩ = some (.slice zaA zan zac) ∧ w'.cell? ⟨zb, zo + q * 9 + 6, none⟩ = some (.string zt) ∧ w'.cell? ⟨zb, zo + q * 9 + 7, none⟩ = some (.string zg) ∧ w'.cell? ⟨zb, zo + q * 9 + 8, none⟩ = some (.slice zkA zkn zkc)) :=
        fun w' kk => ⟨kk.cell c8, kk.cell y0, kk.cell y1, kk.cell y2, kk.cell y3, kk.cell y4, kk.cell y5, kk.cell y6, kk.cell y7, kk.cell y8⟩
      have hzg : zb ≠ g2 := by
        have h1 := HX.out.2.parts.2.2.1 zb zo
        have h2 := HG2.out
        intro e
        have := h1 (by omega) rfl
        omega
      have h12' : g1 ≠ g2 := h12
      clear c8 y0 y1 y2 y3 y4 y5 y6 y7 y8
      obtain ⟨z0, z1, z2, z3, z4', z5, z6, z7, z8, zf, zl⟩ := blk_znd z4
      go_upto_region 6 with fail
      clear z0 z1 z2 z3 z4' z5 z6 z7 z8 zf zl
      go_region_held3 (fun w' => w'.cell? ⟨g1, 8, none⟩ = some (.slice (some ⟨zb, zo, none⟩) kn kc) ∧ w'.cell? ⟨zb, zo + q * 9, none⟩ = some (.int .i64 zk) ∧ w'.cell? ⟨zb, zo + q * 9 + 1, none⟩ = some (.string zn.u) ∧ w'.cell? ⟨zb, zo + q * 9 + 2, none⟩ = some (.string zn.l) ∧ w'.cell? ⟨zb, zo + q * 9 + 3, none⟩ = some (.string zn.p) ∧ w'.cell? ⟨zb, zo + q * 9 + 4, none⟩ = some (.slice zbA zbn zbc) ∧ w'.cell? ⟨zb, zo + q * 9 + 5, none⟩ = some (.slice zaA zan zac) ∧ w'.cell? ⟨zb, zo + q * 9 + 6, none⟩ = some (.string zt) ∧ w'.cell? ⟨zb, zo + q * 9 + 7, none⟩ = some (.string zg) ∧ w'.cell? ⟨zb, zo + q * 9 + 8, none⟩ = some (.slice zkA zkn zkc))
        (first | (with_reducible exact MK.out _ (Kept.refl w4).drew) | (with_reducible exact MK.out _ (Kept.trans (Kept.refl w4).drew hk5)) | (obtain ⟨f0, f1, f2, f3, f4, f5, f6, f7, f8, f9⟩ := MK.out _ (Kept.trans (Kept.refl w4).drew hk5); with_reducible exact ⟨cell_setB9 f0 h12', cell_setB9 f1 hzg, cell_setB9 f2 hzg, cell_setB9 f3 hzg, cell_setB9 f4 hzg, cell_setB9 f5 hzg, cell_setB9 f6 hzg, cell_setB9 f7 hzg, cell_setB9 f8 hzg, cell_setB9 f9 hzg⟩))
        (first | (go_at_call 18; refine (HR.out _ (Kept.refl w4).drew).mono ?_; rintro e w5 ⟨vk, vn, vbA, vbn, vbc, vbs, vaA, van, vac, val, vt, vg, vkA, vkn, vkc, vks, is, rfl, hv, hk5⟩; have z5 := z4.drew.kept hk5; obtain ⟨t0, t1, t2, t3, t4, t5, t6, t7, t8, tf, tl⟩ := blk_znd z5))
      have k45 : Kept w4 w5 := Kept.trans (Kept.refl w4).drew hk5
      have g6 := grown_setB9 w5 g2 (.int .i64 vk) (.string vn.u) (.string vn.l) (.string vn.p) (.slice vbA vbn vbc) (.slice vaA van vac) (.string vt) (.string vg) (.slice vkA vkn vkc)
      have b6 := blk_setB9 z5 (.int .i64 vk) (.string vn.u) (.string vn.l) (.string vn.p) (.slice vbA vbn vbc) (.slice vaA van vac) (.string vt) (.string vg) (.slice vkA vkn vkc)
      have k6 := kept_setB9 (K4.trans k45) hw2 (.int .i64 vk) (.string vn.u) (.string vn.l) (.string vn.p) (.slice vbA vbn vbc) (.slice vaA van vac) (.string vt) (.string vg) (.slice vkA vkn vkc)
      have vok := hv.out.1.grown g6 (hv.out.2.2.mono (fun b hb => by
        intro e
        injection e with e
        have := HG2.out
        omega))
      clear z5 t0 t1 t2 t3 t4 t5 t6 t7 t8 tf tl
      go_wp2_with fail
      change bodyPost _ _ _ _ _ (setB9 w5 g2 (.int .i64 vk) (.string vn.u) (.string vn.l) (.string vn.p) (.slice vbA vbn vbc) (.slice vaA van vac) (.string vt) (.string vg) (.slice vkA vkn vkc))
      generalize setB9 w5 g2 (.int .i64 vk) (.string vn.u) (.string vn.l) (.string vn.p) (.slice vbA vbn vbc) (.slice vaA van vac) (.string vt) (.string vg) (.slice vkA vkn vkc) = W at b6 k6 vok ⊢
      have cz := b6.cell
      have d0 := cz 0
      have d1 := cz 1
      have d2 := cz 2
      have d3 := cz 3
      have d4 := cz 4
      have d5 := cz 5
      have d6 := cz 6
      have d7 := cz 7
      have d8 := cz 8
      exact bodyPost_ret (v := .tuple #[.agg #[.int .i64 vk, .string vn.u, .string vn.l, .string vn.p, .slice vbA vbn vbc, .slice vaA van vac, .string vt, .string vg, .slice vkA vkn vkc], .bool is]) (by simp [results, Try.results18, go_sem, d0, d1, d2, d3, d4, d5, d6, d7, d8]) rfl ⟨Nd.mk vk vn vbA vbn vbc vbs vaA van vac val vt vg vkA vkn vkc vks, is, rfl, vok, hv.out.2.1, k6, hv.out.2.2⟩
end Go.Proofs.Ytnlncamiaddhfaa
