/- Do two nodes say the same: the document's Same walked. -/
import Derived.Test.YtnlncamiaddhfaaInfC
namespace Go.Proofs.Ytnlncamiaddhfaa
open Go.RowKit
attribute [local go_sem ↓] Go.wp_at_zero Go.wp_at_succ

theorem sameBds_len : ∀ {l l' : List Bd}, l.length ≠ l'.length → sameBds l l' = false
  | [], [], h => absurd rfl h
  | [], _ :: _, _ => rfl
  | _ :: _, [], _ => rfl
  | x :: xs, y :: ys, h => by
    rw [sameBds, sameBds_len (by simpa using h), Bool.and_false]
theorem sameAtts_len : ∀ {l l' : List Att}, l.length ≠ l'.length → sameAtts l l' = false
  | [], [], h => absurd rfl h
  | [], _ :: _, _ => rfl
  | _ :: _, [], _ => rfl
  | x :: xs, y :: ys, h => by
    rw [sameAtts, sameAtts_len (by simpa using h), Bool.and_false]
theorem sameL_len : ∀ {l l' : List Tr}, l.length ≠ l'.length → sameL l l' = false
  | [], [], h => absurd rfl h
  | [], _ :: _, _ => rfl
  | _ :: _, [], _ => rfl
  | x :: xs, y :: ys, h => by
    rw [sameL, sameL_len (by simpa using h), Bool.and_false]
theorem sameBds_step {l l' : List Bd} {k : Nat} {x y : Bd} (hx : l[k]? = some x) (hy : l'[k]? = some y) : sameBds (l.drop k) (l'.drop k) = (sameBd x y && sameBds (l.drop (k + 1)) (l'.drop (k + 1))) := by
  have h1 := (List.getElem?_eq_some_iff.1 hx)
  have h2 := (List.getElem?_eq_some_iff.1 hy)
  rw [List.drop_eq_getElem_cons h1.1, List.drop_eq_getElem_cons h2.1, h1.2, h2.2]
  rfl
theorem sameAtts_step {l l' : List Att} {k : Nat} {x y : Att} (hx : l[k]? = some x) (hy : l'[k]? = some y) : sameAtts (l.drop k) (l'.drop k) = (sameAtt x y && sameAtts (l.drop (k + 1)) (l'.drop (k + 1))) := by
  have h1 := (List.getElem?_eq_some_iff.1 hx)
  have h2 := (List.getElem?_eq_some_iff.1 hy)
  rw [List.drop_eq_getElem_cons h1.1, List.drop_eq_getElem_cons h2.1, h1.2, h2.2]
  rfl
theorem sameL_step {l l' : List Tr} {k : Nat} {x y : Tr} (hx : l[k]? = some x) (hy : l'[k]? = some y) : sameL (l.drop k) (l'.drop k) = (sameT x y && sameL (l.drop (k + 1)) (l'.drop (k + 1))) := by
  have h1 := (List.getElem?_eq_some_iff.1 hx)
  have h2 := (List.getElem?_eq_some_iff.1 hy)
  rw [List.drop_eq_getElem_cons h1.1, List.drop_eq_getElem_cons h2.1, h1.2, h2.2]
  rfl
set_option maxRecDepth 100000 in
set_option maxHeartbeats 8000000 in
theorem rsame_any (x : Nd) : ∀ (y : Nd) (w : World), x.ok w → y.ok w → Calls Try.prog 11 #[x.val, y.val] w fun e w' => e = .returned (.bool (sameT x.tr y.tr)) ∧ Kept w w' := by
  induction x using Nd.ind with
  | h k n bA bn bc bs aA an ac al t g kA kn kc ks ih =>
  intro y w hok hok2
  obtain ⟨k', n', bA', bn', bc', bs', aA', an', ac', al', t', g', kA', kn', kc', ks'⟩ := y
  obtain ⟨hb, ha, h, hks⟩ := hok.parts
  obtain ⟨hb', ha', h', hks'⟩ := hok2.parts
  have IH := Lib.hid ih
  have HKS := Lib.hid (show _ ∧ _ from ⟨hks, hks'⟩)
  clear ih hks hks' hok hok2
  have hbl := hb.llen (enc := Bd.cells) (fun _ => rfl) (by omega)
  have hbl' := hb'.llen (enc := Bd.cells) (fun _ => rfl) (by omega)
  have hal := ha.llen (enc := Att.cells) (fun _ => rfl) (by omega)
  have hal' := ha'.llen (enc := Att.cells) (fun _ => rfl) (by omega)
  have hkl := h.llen Nd.cells_len (by omega)
  have hkl' := h'.llen Nd.cells_len (by omega)
  rw [Nd.tr_mk, Nd.tr_mk, sameT_mk]
  obtain ⟨F, hF⟩ : ∃ F, (decide (k = k') && sameNm n n' && eqS t t' && eqS g g' && sameBds bs bs' && sameAtts al al' && sameL (ks.map Nd.tr) (ks'.map Nd.tr)) = F := ⟨_, rfl⟩
  rw [hF]
  have HF := Lib.hid hF
  have HL := Lib.hid (show _ ∧ _ ∧ _ ∧ _ ∧ _ ∧ _ from ⟨hbl, hbl', hal, hal', hkl, hkl'⟩)
  clear hF hbl hbl' hal hal' hkl hkl'
  have m1 := hb.max
  have m2 := ha.max
  have m3 := h.max
  have m4 := hb.cap
  have m5 := ha.cap
  have m6 := h.cap
  have m7 := hb'.cap
  have m8 := ha'.cap
  have m9 := h'.cap
  show Calls Try.prog 11 #[.agg #[.int .i64 k, .string n.u, .string n.l, .string n.p, .slice bA bn bc, .slice aA an ac, .string t, .string g, .slice kA kn kc], .agg #[.int .i64 k', .string n'.u, .string n'.l, .string n'.p, .slice bA' bn' bc', .slice aA' an' ac', .string t', .string g', .slice kA' kn' kc']] w _
  have k1 := ((Kept.refl w).alloc (.cells (ndc k n bA bn bc aA an ac t g kA kn kc) 28)).alloc (.cells (ndc k' n' bA' bn' bc' aA' an' ac' t' g' kA' kn' kc') 28)
  have b1 := (Blk.new w (ndc k n bA bn bc aA an ac t g kA kn kc) 28).alloc (.cells (ndc k' n' bA' bn' bc' aA' an' ac' t' g' kA' kn' kc') 28)
  have z1 := Blk.new (w.alloc (.cells (ndc k n bA bn bc aA an ac t g kA kn kc) 28)) (ndc k' n' bA' bn' bc' aA' an' ac' t' g' kA' kn' kc') 28
  go_enter Try.func11, Try.ntmps11
  go_upto_region 1 with fail
  generalize (w.alloc (.cells (ndc k n bA bn bc aA an ac t g kA kn kc) 28)).alloc (.cells (ndc k' n' bA' bn' bc' aA' an' ac' t' g' kA' kn' kc') 28) = w1 at k1 b1 z1 ⊢
  have b2 : Blk w1 (w.heap.size + 1) (ndc k' n' bA' bn' bc' aA' an' ac' t' g' kA' kn' kc') 28 := by simpa using z1
  clear z1
  obtain ⟨g1, hg1⟩ : ∃ g1, w.heap.size = g1 := ⟨_, rfl⟩
  obtain ⟨g2, hg2⟩ : ∃ g2, w.heap.size + 1 = g2 := ⟨_, rfl⟩
  rw [hg2] at b2 ⊢
  rw [hg1] at b1 ⊢
  clear hg1 hg2
  have bf := b1.cell
  have bf2 := b2.cell
  obtain ⟨D, hD⟩ : ∃ D : Bool, D = !(decide (k = k') && sameNm n n' && eqS t t' && eqS g g' && decide (bn = bn') && decide (an = an') && decide (kn = kn')) := ⟨_, rfl⟩
  have HD := Lib.hid hD
  clear hD
  go_cut [60] (fun s wx => s = .bool D ∧ w1 = wx)
  case first =>
    cases eU : eqS n.u n'.u
    all_goals
      cases eL : eqS n.l n'.l
    all_goals
      cases eP : eqS n.p n'.p
    all_goals
      have fU : (n.u.toList == n'.u.toList) = _ := eU
      have fL : (n.l.toList == n'.l.toList) = _ := eL
      have fP : (n.p.toList == n'.p.toList) = _ := eP
      have hnm : sameNm n n' = (eqS n.u n'.u && eqS n.l n'.l && eqS n.p n'.p) := rfl
      rw [eU, eL, eP] at hnm
      have HD2 := HD.out
      rw [hnm] at HD2
      have HDD := Lib.hid HD2
      clear HD2 hnm eU eL eP
    rotate_right
    · by_cases e1 : k = k'
      rotate_left
      · obtain rfl : D = true := by rw [HDD.out]; simp [e1]
        go_wp2_with fail
        go_meet
        exact ⟨rfl, rfl⟩
      subst e1
      cases eT : eqS t t'
      · have fT : (t.toList == t'.toList) = _ := eT
        obtain rfl : D = true := by rw [HDD.out]; simp [eT]
        clear eT
        go_wp2_with fail
        go_meet
        exact ⟨rfl, rfl⟩
      have fT : (t.toList == t'.toList) = _ := eT
      cases eG : eqS g g'
      · have fG : (g.toList == g'.toList) = _ := eG
        obtain rfl : D = true := by rw [HDD.out]; simp [eG]
        clear eG eT
        go_wp2_with fail
        go_meet
        exact ⟨rfl, rfl⟩
      have fG : (g.toList == g'.toList) = _ := eG
      by_cases e2 : bn = bn'
      rotate_left
      · have i2 : ¬ (bn : Int) = bn' := by omega
        obtain rfl : D = true := by rw [HDD.out]; simp [e2]
        clear eG eT
        go_wp2_with fail
        go_meet
        exact ⟨rfl, rfl⟩
      subst e2
      by_cases e3 : an = an'
      rotate_left
      · have i3 : ¬ (an : Int) = an' := by omega
        obtain rfl : D = true := by rw [HDD.out]; simp [e3]
        clear eG eT
        go_wp2_with fail
        go_meet
        exact ⟨rfl, rfl⟩
      subst e3
      by_cases e4 : kn = kn'
      rotate_left
      · have i4 : ¬ (kn : Int) = kn' := by omega
        have i4' : ((kn : Int) != kn') = true := by simpa using i4
        obtain rfl : D = true := by rw [HDD.out]; simp [e4]
        clear eG eT
        go_wp2_with fail
        go_meet
        exact ⟨rfl, rfl⟩
      subst e4
      obtain rfl : D = false := by rw [HDD.out]; simp [eT, eG]
      clear eG eT
      go_wp2_with fail
      go_meet
      exact ⟨rfl, rfl⟩
    all_goals
      by_cases e1 : k = k'
      · obtain rfl : D = true := by rw [HDD.out]; simp
        subst e1
        go_wp2_with fail
        go_meet
        exact ⟨rfl, rfl⟩
      · obtain rfl : D = true := by rw [HDD.out]; simp
        go_wp2_with fail
        go_meet
        exact ⟨rfl, rfl⟩
  case rest =>
    obtain ⟨rfl, rfl⟩ := hcut
    cases D
    rotate_left
    · have hf : F = false := by
        have h1 := HD.out
        obtain ⟨l1, l2, l3, l4, l5, l6⟩ := HL.out
        rw [← HF.out]
        by_cases e2 : bn = bn'
        · by_cases e3 : an = an'
          · by_cases e4 : kn = kn'
            · simp [e2, e3, e4] at h1
              rcases h1 with ((h1 | h1) | h1) | h1
              all_goals simp [h1]
            · rw [sameL_len (by rw [List.length_map, List.length_map, l5, l6]; exact e4), Bool.and_false]
          · rw [sameAtts_len (by rw [l3, l4]; exact e3), Bool.and_false, Bool.false_and]
        · rw [sameBds_len (by rw [l1, l2]; exact e2), Bool.and_false, Bool.false_and, Bool.false_and]
      have HFF := Lib.hid hf
      clear hf
      go_wp2_with fail
      go_ret
      exact ⟨ret_bool HFF.out.symm, k1⟩
    have hd := HD.out
    have hall : k = k' ∧ sameNm n n' = true ∧ eqS t t' = true ∧ eqS g g' = true ∧ bn = bn' ∧ an = an' ∧ kn = kn' := by
      simp at hd
      obtain ⟨⟨⟨⟨⟨⟨h1, h2⟩, h3⟩, h4⟩, h5⟩, h6⟩, h7⟩ := hd
      exact ⟨h1, h2, h3, h4, h5, h6, h7⟩
    obtain ⟨rfl, a1, a2, a3, rfl, rfl, rfl⟩ := hall
    have hF2 : F = (sameBds bs bs' && sameAtts al al' && sameL (ks.map Nd.tr) (ks'.map Nd.tr)) := by
      rw [← HF.out, a1, a2, a3]
      simp
    have HF2 := Lib.hid hF2
    clear hd a1 a2 a3 hF2 HD HF
    go_wp2_with fail
    go_loopw [64] (fun i wr => ∃ j : Nat, j ≤ bn ∧ i = .int .i64 j ∧ Kept w1 wr ∧ Hid (F = (sameBds (bs.drop j) (bs'.drop j) && sameAtts al al' && sameL (ks.map Nd.tr) (ks'.map Nd.tr)))) (fun i _ => bn - (intOf i).toNat)
    case atStart => exact ⟨0, Nat.zero_le _, rfl, Kept.refl _, HF2.out⟩
    case round =>
      clear bf bf2
      obtain ⟨j, hj, rfl, hkept, HI⟩ := hrel
      have bf := (b1.kept hkept).cell
      have bf2 := (b2.kept hkept).cell
      by_cases hlt : j < bn
      · obtain ⟨pb, po, x, rfl, hx, hxc, hxb⟩ := ((hb.kept k1).kept hkept).elemb (enc := Bd.cells) (fun _ => rfl) (by omega) hlt
        obtain ⟨qb, qo, y, rfl, hy, hyc, hyb⟩ := ((hb'.kept k1).kept hkept).elemb (enc := Bd.cells) (fun _ => rfl) (by omega) hlt
        have x0 : wr.cell? ⟨pb, po + j * 2, none⟩ = some (.string x.p) := hxc 0 _ rfl
        have x1 : wr.cell? ⟨pb, po + j * 2 + 1, none⟩ = some (.string x.u) := hxc 1 _ rfl
        have y0 : wr.cell? ⟨qb, qo + j * 2, none⟩ = some (.string y.p) := hyc 0 _ rfl
        have y1 : wr.cell? ⟨qb, qo + j * 2 + 1, none⟩ = some (.string y.u) := hyc 1 _ rfl
        have hs := HI.out
        rw [sameBds_step hx hy] at hs
        have HS := Lib.hid hs
        have l1 : (j : Int) < bn := by omega
        have kd : Kept w1 wr.drew := hkept.drew
        clear hs hxc hyc hx hy
        go_upto_region 6 with fail
        cases q1 : eqS x.p y.p
        · have f1 : (x.p.toList == y.p.toList) = _ := q1
          have hb0 : sameBd x y = false := by simp [sameBd, q1]
          have HB0 := Lib.hid hb0
          clear q1 hb0
          go_region
          all_goals
            have HFF := Lib.hid (show F = false by rw [HS.out, HB0.out]; simp)
            go_wp2_with fail
            go_ret
            exact ⟨ret_bool HFF.out.symm, k1.trans kd⟩
        cases q2 : eqS x.u y.u
        · have f1 : (x.p.toList == y.p.toList) = _ := q1
          have f2 : (x.u.toList == y.u.toList) = _ := q2
          have hb0 : sameBd x y = false := by simp [sameBd, q1, q2]
          have HB0 := Lib.hid hb0
          clear q1 q2 hb0
          go_region
          all_goals
            have HFF := Lib.hid (show F = false by rw [HS.out, HB0.out]; simp)
            go_wp2_with fail
            go_ret
            exact ⟨ret_bool HFF.out.symm, k1.trans kd⟩
        have f1 : (x.p.toList == y.p.toList) = _ := q1
        have f2 : (x.u.toList == y.u.toList) = _ := q2
        have hb0 : sameBd x y = true := by simp [sameBd, q1, q2]
        have HB0 := Lib.hid hb0
        clear q1 q2 hb0
        go_region
        all_goals
          go_wp2_with fail
          go_roundw
          case rel => exact ⟨j + 1, hlt, by go_num, kd, by unfold Hid; rw [HS.out, HB0.out, Bool.true_and]⟩
          case measure =>
            simp [intOf]
            omega
      · obtain rfl : j = bn := by omega
        have hs := HI.out
        rw [@List.drop_eq_nil_of_le _ (bs) j (by have := HL.out.1; omega), @List.drop_eq_nil_of_le _ (bs') j (by have := HL.out.2.1; omega)] at hs
        have HF3 : Hid (F = (sameAtts al al' && sameL (ks.map Nd.tr) (ks'.map Nd.tr))) := by
          unfold Hid
          rw [hs]
          simp [sameBds]
        have HK3 := Lib.hid hkept
        clear hs HF2 HI
        obtain ⟨w3, hw3⟩ : ∃ z, z = wr := ⟨_, rfl⟩
        subst hw3
        go_wp2_with fail
        go_loopw [82] (fun i wr => ∃ j2 : Nat, j2 ≤ an ∧ i = .int .i64 j2 ∧ Kept w1 wr ∧ Hid (F = (sameAtts (al.drop j2) (al'.drop j2) && sameL (ks.map Nd.tr) (ks'.map Nd.tr)))) (fun i _ => an - (intOf i).toNat)
        case atStart => exact ⟨0, Nat.zero_le _, rfl, HK3.out, HF3.out⟩
        case round =>
          clear bf bf2 hkept
          obtain ⟨j2, hj2, rfl, hkept, HI⟩ := hrel
          have bf := (b1.kept hkept).cell
          have bf2 := (b2.kept hkept).cell
          by_cases hlt2 : j2 < an
          · obtain ⟨pb, po, x, rfl, hx, hxc, hxb⟩ := ((ha.kept k1).kept hkept).elemb (enc := Att.cells) (fun _ => rfl) (by omega) hlt2
            obtain ⟨qb, qo, y, rfl, hy, hyc, hyb⟩ := ((ha'.kept k1).kept hkept).elemb (enc := Att.cells) (fun _ => rfl) (by omega) hlt2
            have x0 : wr.cell? ⟨pb, po + j2 * 5, none⟩ = some (.string x.n.u) := hxc 0 _ rfl
            have x1 : wr.cell? ⟨pb, po + j2 * 5 + 1, none⟩ = some (.string x.n.l) := hxc 1 _ rfl
            have x2 : wr.cell? ⟨pb, po + j2 * 5 + 2, none⟩ = some (.string x.n.p) := hxc 2 _ rfl
            have x3 : wr.cell? ⟨pb, po + j2 * 5 + 3, none⟩ = some (.string x.v) := hxc 3 _ rfl
            have x4 : wr.cell? ⟨pb, po + j2 * 5 + 4, none⟩ = some (.bool x.h) := hxc 4 _ rfl
            have y0 : wr.cell? ⟨qb, qo + j2 * 5, none⟩ = some (.string y.n.u) := hyc 0 _ rfl
            have y1 : wr.cell? ⟨qb, qo + j2 * 5 + 1, none⟩ = some (.string y.n.l) := hyc 1 _ rfl
            have y2 : wr.cell? ⟨qb, qo + j2 * 5 + 2, none⟩ = some (.string y.n.p) := hyc 2 _ rfl
            have y3 : wr.cell? ⟨qb, qo + j2 * 5 + 3, none⟩ = some (.string y.v) := hyc 3 _ rfl
            have y4 : wr.cell? ⟨qb, qo + j2 * 5 + 4, none⟩ = some (.bool y.h) := hyc 4 _ rfl
            have hs := HI.out
            rw [sameAtts_step hx hy] at hs
            have HS := Lib.hid hs
            have l1 : (j2 : Int) < an := by omega
            have kd : Kept w1 wr.drew := hkept.drew
            clear hs hxc hyc hx hy
            go_upto_region 12 with fail
            cases q1 : eqS x.n.u y.n.u
            · have f1 : (x.n.u.toList == y.n.u.toList) = _ := q1
              have hb0 : sameAtt x y = false := by simp [sameAtt, sameNm, q1]
              have HB0 := Lib.hid hb0
              clear q1 hb0
              go_region
              all_goals
                have HFF := Lib.hid (show F = false by rw [HS.out, HB0.out]; simp)
                go_wp2_with fail
                go_ret
                exact ⟨ret_bool HFF.out.symm, k1.trans kd⟩
            cases q2 : eqS x.n.l y.n.l
            · have f1 : (x.n.u.toList == y.n.u.toList) = _ := q1
              have f2 : (x.n.l.toList == y.n.l.toList) = _ := q2
              have hb0 : sameAtt x y = false := by simp [sameAtt, sameNm, q1, q2]
              have HB0 := Lib.hid hb0
              clear q1 q2 hb0
              go_region
              all_goals
                have HFF := Lib.hid (show F = false by rw [HS.out, HB0.out]; simp)
                go_wp2_with fail
                go_ret
                exact ⟨ret_bool HFF.out.symm, k1.trans kd⟩
            cases q3 : eqS x.n.p y.n.p
            · have f1 : (x.n.u.toList == y.n.u.toList) = _ := q1
              have f2 : (x.n.l.toList == y.n.l.toList) = _ := q2
              have f3 : (x.n.p.toList == y.n.p.toList) = _ := q3
              have hb0 : sameAtt x y = false := by simp [sameAtt, sameNm, q1, q2, q3]
              have HB0 := Lib.hid hb0
              clear q1 q2 q3 hb0
              go_region
              all_goals
                have HFF := Lib.hid (show F = false by rw [HS.out, HB0.out]; simp)
                go_wp2_with fail
                go_ret
                exact ⟨ret_bool HFF.out.symm, k1.trans kd⟩
            cases q4 : eqS x.v y.v
            · have f1 : (x.n.u.toList == y.n.u.toList) = _ := q1
              have f2 : (x.n.l.toList == y.n.l.toList) = _ := q2
              have f3 : (x.n.p.toList == y.n.p.toList) = _ := q3
              have f4 : (x.v.toList == y.v.toList) = _ := q4
              have hb0 : sameAtt x y = false := by simp [sameAtt, sameNm, q1, q2, q3, q4]
              have HB0 := Lib.hid hb0
              clear q1 q2 q3 q4 hb0
              go_region
              all_goals
                have HFF := Lib.hid (show F = false by rw [HS.out, HB0.out]; simp)
                go_wp2_with fail
                go_ret
                exact ⟨ret_bool HFF.out.symm, k1.trans kd⟩
            cases q5 : (x.h == y.h)
            · have f1 : (x.n.u.toList == y.n.u.toList) = _ := q1
              have f2 : (x.n.l.toList == y.n.l.toList) = _ := q2
              have f3 : (x.n.p.toList == y.n.p.toList) = _ := q3
              have f4 : (x.v.toList == y.v.toList) = _ := q4
              have f5 : (x.h == y.h) = _ := q5
              have hb0 : sameAtt x y = false := by simp [sameAtt, sameNm, q1, q2, q3, q4, q5]
              have HB0 := Lib.hid hb0
              clear q1 q2 q3 q4 q5 hb0
              go_region
              all_goals
                have HFF := Lib.hid (show F = false by rw [HS.out, HB0.out]; simp)
                go_wp2_with fail
                go_ret
                exact ⟨ret_bool HFF.out.symm, k1.trans kd⟩
            have f1 : (x.n.u.toList == y.n.u.toList) = _ := q1
            have f2 : (x.n.l.toList == y.n.l.toList) = _ := q2
            have f3 : (x.n.p.toList == y.n.p.toList) = _ := q3
            have f4 : (x.v.toList == y.v.toList) = _ := q4
            have f5 : (x.h == y.h) = _ := q5
            have hb0 : sameAtt x y = true := by simp [sameAtt, sameNm, q1, q2, q3, q4, q5]
            have HB0 := Lib.hid hb0
            clear q1 q2 q3 q4 q5 hb0
            go_region
            all_goals
              go_wp2_with fail
              go_roundw
              case rel => exact ⟨j2 + 1, hlt2, by go_num, kd, by unfold Hid; rw [HS.out, HB0.out, Bool.true_and]⟩
              case measure =>
                simp [intOf]
                omega
          · obtain rfl : j2 = an := by omega
            have hs := HI.out
            rw [@List.drop_eq_nil_of_le _ (al) j2 (by have := HL.out.2.2.1; omega), @List.drop_eq_nil_of_le _ (al') j2 (by have := HL.out.2.2.2.1; omega)] at hs
            have HF4 : Hid (F = sameL (ks.map Nd.tr) (ks'.map Nd.tr)) := by
              unfold Hid
              rw [hs]
              simp [sameAtts]
            have HK4 := Lib.hid hkept
            clear hs HI
            obtain ⟨w4, hw4⟩ : ∃ z, z = wr := ⟨_, rfl⟩
            subst hw4
            go_wp2_with fail
            go_loopw [100] (fun i wr => ∃ j3 : Nat, j3 ≤ kn ∧ i = .int .i64 j3 ∧ Kept w1 wr ∧ Hid (F = sameL ((ks.map Nd.tr).drop j3) ((ks'.map Nd.tr).drop j3))) (fun i _ => kn - (intOf i).toNat)
            case atStart => exact ⟨0, Nat.zero_le _, rfl, HK4.out, HF4.out⟩
            case round =>
              clear bf bf2 hkept
              obtain ⟨j3, hj3, rfl, hkept, HI⟩ := hrel
              have bf := (b1.kept hkept).cell
              have bf2 := (b2.kept hkept).cell
              by_cases hlt3 : j3 < kn
              · obtain ⟨pb, po, xk, xn, xbA, xbn, xbc, xbs, xaA, xan, xac, xal, xt, xg, xkA, xkn, xkc, xks, rfl, hx, x0, x1, x2, x3, x4, x5, x6, x7, x8, hxb⟩ := cells9 ((h.kept k1).kept hkept) hlt3
                obtain ⟨qb, qo, yk, yn, ybA, ybn, ybc, ybs, yaA, yan, yac, yal, yt, yg, ykA, ykn, ykc, yks, rfl, hy, y0, y1, y2, y3, y4, y5, y6, y7, y8, hyb⟩ := cells9 ((h'.kept k1).kept hkept) hlt3
                have hs := HI.out
                rw [sameL_step (map_get (f := Nd.tr) hx) (map_get (f := Nd.tr) hy)] at hs
                have hxo := ((HKS.out.1 _ (List.mem_of_getElem? hx)).kept k1).kept hkept
                have hyo := ((HKS.out.2 _ (List.mem_of_getElem? hy)).kept k1).kept hkept
                have hih := fun w' (kk : Kept wr w') => IH.out _ (List.mem_of_getElem? hx) _ w' (hxo.kept kk) (hyo.kept kk)
                obtain ⟨z, hz⟩ : ∃ z, sameT (Nd.mk xk xn xbA xbn xbc xbs xaA xan xac xal xt xg xkA xkn xkc xks).tr (Nd.mk yk yn ybA ybn ybc ybs yaA yan yac yal yt yg ykA ykn ykc yks).tr = z := ⟨_, rfl⟩
                rw [hz] at hs hih
                have HS := Lib.hid hs
                have HW : Hid (∀ w', Kept wr w' → Calls Try.prog 11 #[.agg #[.int .i64 xk, .string xn.u, .string xn.l, .string xn.p, .slice xbA xbn xbc, .slice xaA xan xac, .string xt, .string xg, .slice xkA xkn xkc], .agg #[.int .i64 yk, .string yn.u, .string yn.l, .string yn.p, .slice ybA ybn ybc, .slice yaA yan yac, .string yt, .string yg, .slice ykA ykn ykc]] w' fun e w'' => e = .returned (.bool z) ∧ Kept w' w'') := fun w' kk => hih w' kk
                have l1 : (j3 : Int) < kn := by omega
                clear hs hx hy hz hih hxo hyo
                go_upto_region 18 with fail
                go_region_with (first | (go_at_call 11; refine (HW.out _ (Kept.refl wr).drew).mono ?_; rintro e w5 ⟨rfl, hk5⟩))
                all_goals
                  have kd : Kept w1 w5 := hkept.trans (Kept.trans (Kept.refl wr).drew hk5)
                  clear hk5
                  cases z
                  · have HFF := Lib.hid (show F = false by rw [HS.out]; simp)
                    go_wp2_with fail
                    go_ret
                    exact ⟨ret_bool HFF.out.symm, k1.trans kd⟩
                  · go_wp2_with fail
                    go_roundw
                    case rel => exact ⟨j3 + 1, hlt3, by go_num, kd, by unfold Hid; rw [HS.out, Bool.true_and]⟩
                    case measure =>
                      simp [intOf]
                      omega
              · obtain rfl : j3 = kn := by omega
                have hs := HI.out
                rw [@List.drop_eq_nil_of_le _ (ks.map Nd.tr) j3 (by have := HL.out.2.2.2.2.1; rw [List.length_map]; omega), @List.drop_eq_nil_of_le _ (ks'.map Nd.tr) j3 (by have := HL.out.2.2.2.2.2; rw [List.length_map]; omega)] at hs
                have HFF : Hid (F = true) := hs
                clear hs
                go_wp2_with fail
                go_ret
                exact ⟨ret_bool HFF.out.symm, k1.trans hkept⟩
end Go.Proofs.Ytnlncamiaddhfaa
