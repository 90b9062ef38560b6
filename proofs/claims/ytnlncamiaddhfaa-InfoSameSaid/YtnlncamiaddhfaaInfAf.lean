/- The document's Alike: walked. Printed by gen_infaf.py. -/
import Derived.Test.YtnlncamiaddhfaaInfAe
import Derived.Test.YtnlncamiaddhfaaInfS
namespace Go.Proofs.Ytnlncamiaddhfaa
open Go.RowKit
attribute [local go_sem ↓] Go.wp_at_zero Go.wp_at_succ

theorem alikeL_len : ∀ {l l' : List Tr}, l.length ≠ l'.length → alikeL l l' = false
  | [], [], h => absurd rfl h
  | [], _ :: _, _ => rfl
  | _ :: _, [], _ => rfl
  | x :: xs, y :: ys, h => by
    rw [alikeL, alikeL_len (by simpa using h), Bool.and_false]
theorem alikeL_step {l l' : List Tr} {k : Nat} {x y : Tr} (hx : l[k]? = some x) (hy : l'[k]? = some y) : alikeL (l.drop k) (l'.drop k) = (alikeT x y && alikeL (l.drop (k + 1)) (l'.drop (k + 1))) := by
  have h1 := (List.getElem?_eq_some_iff.1 hx)
  have h2 := (List.getElem?_eq_some_iff.1 hy)
  rw [List.drop_eq_getElem_cons h1.1, List.drop_eq_getElem_cons h2.1, h1.2, h2.2]
  rfl
theorem atts_drop {al : List Att} {j : Nat} {x : Att} (hx : al[j]? = some x) : al.drop j = x :: al.drop (j + 1) := by
  have h1 := (List.getElem?_eq_some_iff.1 hx)
  rw [List.drop_eq_getElem_cons h1.1, h1.2]
theorem wo_step {al rl l' : List Att} {j : Nat} {x : Att} {b : Bool} (hx : al[j]? = some x) (h : WoOf rl x b l') : (b = false → attsT (al.drop j) rl = false) ∧ (b = true → attsT (al.drop j) rl = attsT (al.drop (j + 1)) l' ∧ l'.length + 1 = rl.length) := by
  rw [atts_drop hx]
  rcases h with ⟨rfl, h⟩ | ⟨rfl, i, y, hy, hm, hn, rfl⟩
  · exact ⟨fun _ => attsT_none h, fun e => by cases e⟩
  · refine ⟨fun e => (by cases e), fun _ => ⟨attsT_step hy hm hn, ?_⟩⟩
    have := (List.getElem?_eq_some_iff.1 hy).1
    simp
    omega
theorem atts_end {al rl : List Att} {j : Nat} (hj : al.length ≤ j) (h : rl.length = 0) : attsT (al.drop j) rl = true := by
  rw [List.drop_eq_nil_of_le hj, List.eq_nil_of_length_eq_zero h]
  rfl
set_option maxRecDepth 100000 in
set_option maxHeartbeats 8000000 in
theorem ralike_any (x : Nd) : ∀ (y : Nd) (w : World), x.ok w → y.ok w → Small x.tr → Small y.tr → Calls Try.prog 25 #[x.val, y.val] w fun e w' => e = .returned (.bool (alikeT x.tr y.tr)) ∧ Kept w w' := by
  induction x using Nd.ind with
  | h k n bA bn bc bs aA an ac al t g kA kn kc ks ih =>
  intro y w hok hok2 hsm hsm2
  obtain ⟨k', n', bA', bn', bc', bs', aA', an', ac', al', t', g', kA', kn', kc', ks'⟩ := y
  obtain ⟨hb, ha, h, hks⟩ := hok.parts
  obtain ⟨hb', ha', h', hks'⟩ := hok2.parts
  have IH := Lib.hid ih
  have HKS := Lib.hid (show _ ∧ _ from ⟨hks, hks'⟩)
  have hal := ha.llen (enc := Att.cells) (fun _ => rfl) (by omega)
  have hal' := ha'.llen (enc := Att.cells) (fun _ => rfl) (by omega)
  have hkl := h.llen Nd.cells_len (by omega)
  have hkl' := h'.llen Nd.cells_len (by omega)
  rw [Nd.tr_mk] at hsm hsm2
  have hS : al.length ≤ 100 ∧ ∀ x ∈ ks, Small x.tr := by
    cases hsm with
    | mk h1 h2 h3 h4 => exact ⟨h2, fun x hx => h4 _ (List.mem_map_of_mem hx)⟩
  have hS' : al'.length ≤ 100 ∧ ∀ x ∈ ks', Small x.tr := by
    cases hsm2 with
    | mk h1 h2 h3 h4 => exact ⟨h2, fun x hx => h4 _ (List.mem_map_of_mem hx)⟩
  have HSM := Lib.hid (show _ ∧ _ from ⟨hS.2, hS'.2⟩)
  have han : an ≤ 100 := by omega
  have han' : an' ≤ 100 := by omega
  clear ih hks hks' hok hok2 hsm hsm2 hS hS'
  rw [Nd.tr_mk, Nd.tr_mk, alikeT_mk]
  obtain ⟨F, hF⟩ : ∃ F, (decide (k = k') && meansNm n n' && eqS t t' && eqS g g' && attsT al al' && alikeL (ks.map Nd.tr) (ks'.map Nd.tr)) = F := ⟨_, rfl⟩
  rw [hF]
  have HF := Lib.hid hF
  have HL := Lib.hid (show al.length = an ∧ al'.length = an' ∧ ks.length = kn ∧ ks'.length = kn' from ⟨hal, hal', hkl, hkl'⟩)
  clear hF hal hal' hkl hkl'
  have m3 := h.max
  have m6 := h.cap
  have m5 := ha.cap
  have m2 := ha.max
  have m8 := ha'.cap
  have m9 := h'.cap
  show Calls Try.prog 25 #[.agg #[.int .i64 k, .string n.u, .string n.l, .string n.p, .slice bA bn bc, .slice aA an ac, .string t, .string g, .slice kA kn kc], .agg #[.int .i64 k', .string n'.u, .string n'.l, .string n'.p, .slice bA' bn' bc', .slice aA' an' ac', .string t', .string g', .slice kA' kn' kc']] w _
  have k1 := ((Kept.refl w).alloc (.cells (ndc k n bA bn bc aA an ac t g kA kn kc) 28)).alloc (.cells (ndc k' n' bA' bn' bc' aA' an' ac' t' g' kA' kn' kc') 28)
  have b1 := (Blk.new w (ndc k n bA bn bc aA an ac t g kA kn kc) 28).alloc (.cells (ndc k' n' bA' bn' bc' aA' an' ac' t' g' kA' kn' kc') 28)
  have z1 := Blk.new (w.alloc (.cells (ndc k n bA bn bc aA an ac t g kA kn kc) 28)) (ndc k' n' bA' bn' bc' aA' an' ac' t' g' kA' kn' kc') 28
  go_enter Try.func25, Try.ntmps25
  go_upto_region 1 with fail
  generalize (w.alloc (.cells (ndc k n bA bn bc aA an ac t g kA kn kc) 28)).alloc (.cells (ndc k' n' bA' bn' bc' aA' an' ac' t' g' kA' kn' kc') 28) = w1 at k1 b1 z1 ⊢
  have b2 : Blk w1 (w.heap.size + 1) (ndc k' n' bA' bn' bc' aA' an' ac' t' g' kA' kn' kc') 28 := by simpa using z1
  clear z1
  obtain ⟨g1, hg1⟩ : ∃ g1, w.heap.size = g1 := ⟨_, rfl⟩
  obtain ⟨g2, hg2⟩ : ∃ g2, w.heap.size + 1 = g2 := ⟨_, rfl⟩
  rw [hg2] at b2 ⊢
  rw [hg1] at b1 ⊢
  clear hg1 hg2
  obtain ⟨D, hD⟩ : ∃ D : Bool, D = !(decide (k = k') && meansNm n n' && eqS t t' && eqS g g' && decide (an = an') && decide (kn = kn')) := ⟨_, rfl⟩
  have HD := Lib.hid hD
  clear hD
  have HM := Lib.hid (fun w' => rmeans_any n n' w')
  simp only [Nm.val] at HM
  go_cut [55] (fun s wx => s = .bool D ∧ Kept w1 wx)
  case first =>
    have bf := b1.cell
    have bf2 := b2.cell
    have c0 : w1.cell? ⟨g1, 0, none⟩ = some (.int .i64 k) := bf 0
    have c1 : w1.cell? ⟨g1, 1, none⟩ = some (.string n.u) := bf 1
    have c2 : w1.cell? ⟨g1, 2, none⟩ = some (.string n.l) := bf 2
    have c3 : w1.cell? ⟨g1, 3, none⟩ = some (.string n.p) := bf 3
    have d0 : w1.cell? ⟨g2, 0, none⟩ = some (.int .i64 k') := bf2 0
    have d1 : w1.cell? ⟨g2, 1, none⟩ = some (.string n'.u) := bf2 1
    have d2 : w1.cell? ⟨g2, 2, none⟩ = some (.string n'.l) := bf2 2
    have d3 : w1.cell? ⟨g2, 3, none⟩ = some (.string n'.p) := bf2 3
    clear bf bf2
    by_cases e1 : k = k'
    rotate_left
    · obtain rfl : D = true := by rw [HD.out]; simp [e1]
      go_wp2_with fail
      go_meet
      exact ⟨by first | rfl | simp [bne, e1], Kept.refl _⟩
    subst e1
    obtain ⟨M, hM⟩ : ∃ M, meansNm n n' = M := ⟨_, rfl⟩
    rw [hM] at HM
    have HMM := Lib.hid hM
    clear hM
    go_wp2_with fail
    refine (HM.out w1).mono ?_
    rintro e w2 ⟨rfl, k2⟩
    clear c0 c1 c2 c3 d0 d1 d2 d3
    have bf := (b1.kept k2).cell
    have bf2 := (b2.kept k2).cell
    have c5 : w2.cell? ⟨g1, 5, none⟩ = some (.slice aA an ac) := bf 5
    have c6 : w2.cell? ⟨g1, 6, none⟩ = some (.string t) := bf 6
    have c7 : w2.cell? ⟨g1, 7, none⟩ = some (.string g) := bf 7
    have c8 : w2.cell? ⟨g1, 8, none⟩ = some (.slice kA kn kc) := bf 8
    have d8 : w2.cell? ⟨g2, 8, none⟩ = some (.slice kA' kn' kc') := bf2 8
    have d5 : w2.cell? ⟨g2, 5, none⟩ = some (.slice aA' an' ac') := bf2 5
    have d6 : w2.cell? ⟨g2, 6, none⟩ = some (.string t') := bf2 6
    have d7 : w2.cell? ⟨g2, 7, none⟩ = some (.string g') := bf2 7
    clear bf bf2
    cases M
    · obtain rfl : D = true := by rw [HD.out, HMM.out]; simp
      go_wp2_with fail
      go_meet
      exact ⟨rfl, k2⟩
    cases eT : eqS t t'
    · have fT : (t.toList == t'.toList) = _ := eT
      obtain rfl : D = true := by rw [HD.out]; simp [eT]
      clear eT
      go_wp2_with fail
      go_meet
      exact ⟨by first | rfl | simp [bne, fT], k2⟩
    have fT : (t.toList == t'.toList) = _ := eT
    cases eG : eqS g g'
    · have fG : (g.toList == g'.toList) = _ := eG
      obtain rfl : D = true := by rw [HD.out]; simp [eG]
      clear eG eT
      go_wp2_with fail
      go_meet
      exact ⟨by first | rfl | simp [bne, fG], k2⟩
    have fG : (g.toList == g'.toList) = _ := eG
    by_cases e2 : an = an'
    rotate_left
    · have i2 : ¬ (an : Int) = an' := by omega
      have i2' : ((an : Int) != an') = true := by simpa using i2
      obtain rfl : D = true := by rw [HD.out]; simp [e2]
      clear eG eT
      go_wp2_with fail
      go_meet
      exact ⟨by first | rfl | simp [i2'], k2⟩
    subst e2
    by_cases e4 : kn = kn'
    rotate_left
    · have i4 : ¬ (kn : Int) = kn' := by omega
      have i4' : ((kn : Int) != kn') = true := by simpa using i4
      obtain rfl : D = true := by rw [HD.out]; simp [e4]
      clear eG eT
      go_wp2_with fail
      go_meet
      exact ⟨by first | rfl | simp [i4'], k2⟩
    subst e4
    obtain rfl : D = false := by rw [HD.out, HMM.out]; simp [eT, eG]
    clear eG eT
    go_wp2_with fail
    go_meet
    exact ⟨by first | rfl | simp [bne], k2⟩
  case rest =>
    obtain ⟨rfl, k12⟩ := hcut
    obtain ⟨w2, hw2⟩ : ∃ z, z = wc := ⟨_, rfl⟩
    subst hw2
    have K2 := k1.trans k12
    cases D
    rotate_left
    · have hf : F = false := by
        have h1 := HD.out
        rw [← HF.out]
        by_cases e2 : an = an'
        · by_cases e4 : kn = kn'
          · simp [e2, e4] at h1
            rcases h1 with ((h1 | h1) | h1) | h1
            all_goals simp [h1]
          · rw [alikeL_len (by rw [List.length_map, List.length_map, HL.out.2.2.1, HL.out.2.2.2]; exact e4), Bool.and_false]
        · rw [attsT_len (by rw [HL.out.1, HL.out.2.1]; exact e2)]
          simp
      have HFF := Lib.hid hf
      clear hf
      go_wp2_with fail
      go_ret
      exact ⟨ret_bool HFF.out.symm, K2⟩
    have hd := HD.out
    have hall : k = k' ∧ meansNm n n' = true ∧ eqS t t' = true ∧ eqS g g' = true ∧ an = an' ∧ kn = kn' := by
      simp at hd
      obtain ⟨⟨⟨⟨⟨h1, h2⟩, h3⟩, h4⟩, h5⟩, h6⟩ := hd
      exact ⟨h1, h2, h3, h4, h5, h6⟩
    obtain ⟨rfl, a1, a2, a3, rfl, rfl⟩ := hall
    have hF2 : F = (attsT al al' && alikeL (ks.map Nd.tr) (ks'.map Nd.tr)) := by
      rw [← HF.out, a1, a2, a3]
      simp
    have HF2 := Lib.hid hF2
    have B1 := b1.kept k12
    have B2 := b2.kept k12
    have HAA := Lib.hid (show _ ∧ _ from ⟨ha.kept K2, ha'.kept K2⟩)
    have c5 : w2.cell? ⟨g1, 5, none⟩ = some (.slice aA an ac) := B1.cell 5
    have d5 : w2.cell? ⟨g2, 5, none⟩ = some (.slice aA' an ac') := B2.cell 5
    clear hd a1 a2 a3 hF2 HD HF HM ha ha' b1 b2
    go_wp2_with fail
    go_loopw [5, 61] (fun v i wr => ∃ (j : Nat) (rA : Option Addr) (rn rc : Nat) (rl : List Att), j ≤ an ∧ i = .int .i64 j ∧ v = .slice rA rn rc ∧ Kept w2 wr ∧ Sl wr 5 rA rn rc (rl.flatMap Att.cells) ∧ Hid (rl.length + j = an ∧ F = (attsT (al.drop j) rl && alikeL (ks.map Nd.tr) (ks'.map Nd.tr)))) (fun _ i _ => an - (intOf i).toNat)
    case atStart => exact ⟨0, aA', an, ac', al', Nat.zero_le _, rfl, rfl, Kept.refl _, HAA.out.2, HL.out.2.1, HF2.out⟩
    case round =>
      clear c5 d5
      obtain ⟨j, rA, rn, rc, rl, hj, rfl, rfl, hkept, hr, HI⟩ := hrel
      have hrn := hr.llen (enc := Att.cells) (fun _ => rfl) (by omega)
      have hrn2 := HI.out.1
      have hrn3 : rn ≤ 1000000 := by omega
      by_cases hlt : j < an
      · obtain ⟨pb, po, x, rfl, hx, hxc, hxb⟩ := (HAA.out.1.kept hkept).elemb (enc := Att.cells) (fun _ => rfl) (by omega) hlt
        have x0 : wr.cell? ⟨pb, po + j * 5, none⟩ = some (.string x.n.u) := hxc 0 _ rfl
        have x1 : wr.cell? ⟨pb, po + j * 5 + 1, none⟩ = some (.string x.n.l) := hxc 1 _ rfl
        have x2 : wr.cell? ⟨pb, po + j * 5 + 2, none⟩ = some (.string x.n.p) := hxc 2 _ rfl
        have x3 : wr.cell? ⟨pb, po + j * 5 + 3, none⟩ = some (.string x.v) := hxc 3 _ rfl
        have x4 : wr.cell? ⟨pb, po + j * 5 + 4, none⟩ = some (.bool x.h) := hxc 4 _ rfl
        have HS := Lib.hid (fun (b : Bool) (l' : List Att) (hh : WoOf rl x b l') => wo_step hx hh)
        have bx := Blk.new wr #[.string x.n.u, .string x.n.l, .string x.n.p, .string x.v, .bool x.h] 63
        have kx : Kept wr (wr.alloc (.cells #[.string x.n.u, .string x.n.l, .string x.n.p, .string x.v, .bool x.h] 63)) := (Kept.refl wr).alloc _
        clear hxc hx
        go_upto_region 7 with fail
        change Code.wp _ _ _ _ (wr.alloc (.cells #[.string x.n.u, .string x.n.l, .string x.n.p, .string x.v, .bool x.h] 63))
        generalize wr.alloc (.cells #[.string x.n.u, .string x.n.l, .string x.n.p, .string x.v, .bool x.h] 63) = wx at bx kx ⊢
        obtain ⟨gx, hgx⟩ : ∃ g, wr.heap.size = g := ⟨_, rfl⟩
        rw [hgx] at bx ⊢
        have HW : Hid (Calls Try.prog 38 #[.slice rA rn rc, .agg #[.string x.n.u, .string x.n.l, .string x.n.p, .string x.v, .bool x.h]] wx fun e w' => ∃ A' n' c' l' b, e = .returned (.tuple #[.slice A' n' c', .bool b]) ∧ Sl w' 5 A' n' c' (l'.flatMap Att.cells) ∧ Hid (WoOf rl x b l') ∧ Kept wx w') := without_any rA rn rc rl x wx (hr.kept kx) hrn3
        have y0 : wx.cell? ⟨gx, 0, none⟩ = some (.string x.n.u) := bx.cell 0
        have y1 : wx.cell? ⟨gx, 1, none⟩ = some (.string x.n.l) := bx.cell 1
        have y2 : wx.cell? ⟨gx, 2, none⟩ = some (.string x.n.p) := bx.cell 2
        have y3 : wx.cell? ⟨gx, 3, none⟩ = some (.string x.v) := bx.cell 3
        have y4 : wx.cell? ⟨gx, 4, none⟩ = some (.bool x.h) := bx.cell 4
        have kr := hkept.trans kx
        clear hgx x0 x1 x2 x3 x4 hr hxb kx hkept hrn
        go_wp2_with fail
        refine HW.out.mono ?_
        rintro e w3 ⟨A', n', c', l', b, rfl, hs', hwo, k3⟩
        have kr3 := kr.trans k3
        clear y0 y1 y2 y3 y4 bx
        cases b
        · have HFF := Lib.hid (show F = false by rw [HI.out.2, (HS.out _ _ hwo.out).1 rfl]; rfl)
          go_wp2_with fail
          go_ret
          exact ⟨ret_bool HFF.out.symm, K2.trans kr3⟩
        have hst := (HS.out _ _ hwo.out).2 rfl
        have HST := Lib.hid hst
        clear hst hrn2
        go_wp2_with fail
        go_roundw
        case rel => exact ⟨j + 1, A', n', c', l', hlt, by go_num, rfl, kr3, hs', by have := HST.out.2; have := HI.out.1; omega, by rw [HI.out.2, HST.out.1]⟩
        case measure =>
          simp [intOf]
          omega
      · obtain rfl : j = an := by omega
        have HF3 : Hid (F = alikeL (ks.map Nd.tr) (ks'.map Nd.tr)) := by
          unfold Hid
          rw [HI.out.2, atts_end (by rw [HL.out.1]; exact Nat.le_refl _) (by have := HI.out.1; omega)]
          rfl
        have HK4 := Lib.hid hkept
        have kb : wr.cell? ⟨g1, 8, none⟩ = some (.slice kA kn kc) := (B1.kept hkept).cell 8
        clear HI hr hrn hrn2
        obtain ⟨w4, hw4⟩ : ∃ z, z = wr := ⟨_, rfl⟩
        subst hw4
        go_wp2_with fail
        go_loopw [78] (fun i wr => ∃ j3 : Nat, j3 ≤ kn ∧ i = .int .i64 j3 ∧ Kept w2 wr ∧ Hid (F = alikeL ((ks.map Nd.tr).drop j3) ((ks'.map Nd.tr).drop j3))) (fun i _ => kn - (intOf i).toNat)
        case atStart => exact ⟨0, Nat.zero_le _, rfl, HK4.out, HF3.out⟩
        case round =>
          clear kb hkept
          obtain ⟨j3, hj3, rfl, hkept, HI⟩ := hrel
          have bf := (B1.kept hkept).cell
          have bf2 := (B2.kept hkept).cell
          by_cases hlt3 : j3 < kn
          · obtain ⟨pb, po, xk, xn, xbA, xbn, xbc, xbs, xaA, xan, xac, xal, xt, xg, xkA, xkn, xkc, xks, rfl, hx, x0, x1, x2, x3, x4, x5, x6, x7, x8, hxb⟩ := cells9 ((h.kept K2).kept hkept) hlt3
            obtain ⟨qb, qo, yk, yn, ybA, ybn, ybc, ybs, yaA, yan, yac, yal, yt, yg, ykA, ykn, ykc, yks, rfl, hy, y0, y1, y2, y3, y4, y5, y6, y7, y8, hyb⟩ := cells9 ((h'.kept K2).kept hkept) hlt3
            have hs := HI.out
            rw [alikeL_step (map_get (f := Nd.tr) hx) (map_get (f := Nd.tr) hy)] at hs
            have hxo := ((HKS.out.1 _ (List.mem_of_getElem? hx)).kept K2).kept hkept
            have hyo := ((HKS.out.2 _ (List.mem_of_getElem? hy)).kept K2).kept hkept
            have hih := fun w' (kk : Kept wr w') => IH.out _ (List.mem_of_getElem? hx) _ w' (hxo.kept kk) (hyo.kept kk) (HSM.out.1 _ (List.mem_of_getElem? hx)) (HSM.out.2 _ (List.mem_of_getElem? hy))
            obtain ⟨z, hz⟩ : ∃ z, alikeT (Nd.mk xk xn xbA xbn xbc xbs xaA xan xac xal xt xg xkA xkn xkc xks).tr (Nd.mk yk yn ybA ybn ybc ybs yaA yan yac yal yt yg ykA ykn ykc yks).tr = z := ⟨_, rfl⟩
            rw [hz] at hs hih
            have HS := Lib.hid hs
            have HW : Hid (∀ w', Kept wr w' → Calls Try.prog 25 #[.agg #[.int .i64 xk, .string xn.u, .string xn.l, .string xn.p, .slice xbA xbn xbc, .slice xaA xan xac, .string xt, .string xg, .slice xkA xkn xkc], .agg #[.int .i64 yk, .string yn.u, .string yn.l, .string yn.p, .slice ybA ybn ybc, .slice yaA yan yac, .string yt, .string yg, .slice ykA ykn ykc]] w' fun e w'' => e = .returned (.bool z) ∧ Kept w' w'') := fun w' kk => hih w' kk
            have l1 : (j3 : Int) < kn := by omega
            clear hs hx hy hz hih hxo hyo
            go_upto_region 15 with fail
            go_region_with (first | (go_at_call 25; refine (HW.out _ (Kept.refl wr).drew).mono ?_; rintro e w5 ⟨rfl, hk5⟩))
            all_goals
              have kd : Kept w2 w5 := hkept.trans (Kept.trans (Kept.refl wr).drew hk5)
              clear hk5
              cases z
              · have HFF := Lib.hid (show F = false by rw [HS.out]; simp)
                go_wp2_with fail
                go_ret
                exact ⟨ret_bool HFF.out.symm, K2.trans kd⟩
              · go_wp2_with fail
                go_roundw
                case rel => exact ⟨j3 + 1, hlt3, by go_num, kd, by unfold Hid; rw [HS.out, Bool.true_and]⟩
                case measure =>
                  simp [intOf]
                  omega
          · obtain rfl : j3 = kn := by omega
            have hs := HI.out
            rw [@List.drop_eq_nil_of_le _ (ks.map Nd.tr) j3 (by have := HL.out.2.2.1; rw [List.length_map]; omega), @List.drop_eq_nil_of_le _ (ks'.map Nd.tr) j3 (by have := HL.out.2.2.2; rw [List.length_map]; omega)] at hs
            have HFF : Hid (F = true) := hs
            clear hs
            go_wp2_with fail
            go_ret
            exact ⟨ret_bool HFF.out.symm, K2.trans hkept⟩
end Go.Proofs.Ytnlncamiaddhfaa
