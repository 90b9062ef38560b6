/- info.Same: walked. Printed by gen_infh.py. -/
import Derived.Test.YtnlncamiaddhfaaInfG
namespace Go.Proofs.Ytnlncamiaddhfaa
open Go.RowKit
attribute [local go_sem ↓] Go.wp_at_zero Go.wp_at_succ

set_option maxRecDepth 100000 in
set_option maxHeartbeats 8000000 in
theorem same_any (x : Nd) : ∀ (y : Nd) (w : World), x.ok w → y.ok w → Calls Try.prog 22 #[x.val, y.val] w fun e w' => e = .returned (.bool (sameT x.tr y.tr)) ∧ Kept w w' := by
  induction x using Nd.ind with
  | h k n bA bn bc bs aA an ac al t g kA kn kc ks ih =>
  intro y w hok hok2
  obtain ⟨k', n', bA', bn', bc', bs', aA', an', ac', al', t', g', kA', kn', kc', ks'⟩ := y
  obtain ⟨hb, ha, h, hks⟩ := hok.parts
  obtain ⟨hb', ha', h', hks'⟩ := hok2.parts
  have HE := Lib.hid (fun args w => fn_enters Try.func22 (by kernel_rfl) (by kernel_rfl) args w)
  have H3 : Hid (∀ w', Kept w w' → Calls Try.prog 32 #[.slice kA kn kc, .slice kA' kn' kc', .func (.func 22) #[] #[]] w' fun e w'' => e = .returned (.bool (sameL (ks.map Nd.tr) (ks'.map Nd.tr))) ∧ Kept w' w'') := by
    intro w' kk
    have h1 := eqFunc_any 22 sameT HE.out kA kn kc ks kA' kn' kc' ks' w' ⟨h.kept kk, fun x hx => (hks x hx).kept kk⟩ ⟨h'.kept kk, fun x hx => (hks' x hx).kept kk⟩ (fun x hx y hy w'' kk2 => ih x hx y w'' (((hks x hx).kept kk).kept kk2) (((hks' y hy).kept kk).kept kk2))
    rw [eqL_same] at h1
    exact h1
  have H1 := Lib.hid (fun w' (kk : Kept w w') => eqBds_any bA bn bc bs bA' bn' bc' bs' w' (hb.kept kk) (hb'.kept kk))
  have H2 := Lib.hid (fun w' (kk : Kept w w') => eqAtts_any aA an ac al aA' an' ac' al' w' (ha.kept kk) (ha'.kept kk))
  rw [Nd.tr_mk, Nd.tr_mk, sameT_mk]
  clear ih hks hks' hok hok2 hb ha h hb' ha' h' HE
  obtain ⟨X1, hX1⟩ : ∃ X1, sameBds bs bs' = X1 := ⟨_, rfl⟩
  obtain ⟨X2, hX2⟩ : ∃ X2, sameAtts al al' = X2 := ⟨_, rfl⟩
  obtain ⟨X3, hX3⟩ : ∃ X3, sameL (ks.map Nd.tr) (ks'.map Nd.tr) = X3 := ⟨_, rfl⟩
  rw [hX1] at H1
  rw [hX2] at H2
  rw [hX3] at H3
  rw [hX1, hX2, hX3]
  clear hX1 hX2 hX3
  obtain ⟨F, hF⟩ : ∃ F, (decide (k = k') && sameNm n n' && eqS t t' && eqS g g' && X1 && X2 && X3) = F := ⟨_, rfl⟩
  rw [hF]
  have HF := Lib.hid hF
  clear hF
  show Calls Try.prog 22 #[.agg #[.int .i64 k, .string n.u, .string n.l, .string n.p, .slice bA bn bc, .slice aA an ac, .string t, .string g, .slice kA kn kc], .agg #[.int .i64 k', .string n'.u, .string n'.l, .string n'.p, .slice bA' bn' bc', .slice aA' an' ac', .string t', .string g', .slice kA' kn' kc']] w _
  have k1 := ((Kept.refl w).alloc (.cells (ndc k n bA bn bc aA an ac t g kA kn kc) 36)).alloc (.cells (ndc k' n' bA' bn' bc' aA' an' ac' t' g' kA' kn' kc') 36)
  have b1 := (Blk.new w (ndc k n bA bn bc aA an ac t g kA kn kc) 36).alloc (.cells (ndc k' n' bA' bn' bc' aA' an' ac' t' g' kA' kn' kc') 36)
  have z1 := Blk.new (w.alloc (.cells (ndc k n bA bn bc aA an ac t g kA kn kc) 36)) (ndc k' n' bA' bn' bc' aA' an' ac' t' g' kA' kn' kc') 36
  go_enter Try.func22, Try.ntmps22
  go_upto_region 1 with fail
  generalize (w.alloc (.cells (ndc k n bA bn bc aA an ac t g kA kn kc) 36)).alloc (.cells (ndc k' n' bA' bn' bc' aA' an' ac' t' g' kA' kn' kc') 36) = w1 at k1 b1 z1 ⊢
  have b2 : Blk w1 (w.heap.size + 1) (ndc k' n' bA' bn' bc' aA' an' ac' t' g' kA' kn' kc') 36 := by simpa using z1
  clear z1
  obtain ⟨g1, hg1⟩ : ∃ g1, w.heap.size = g1 := ⟨_, rfl⟩
  obtain ⟨g2, hg2⟩ : ∃ g2, w.heap.size + 1 = g2 := ⟨_, rfl⟩
  rw [hg2] at b2 ⊢
  rw [hg1] at b1 ⊢
  clear hg1 hg2
  have bf := b1.cell
  have bf2 := b2.cell
  obtain ⟨D, hD⟩ : ∃ D : Bool, D = !(decide (k = k') && sameNm n n' && eqS t t' && eqS g g') := ⟨_, rfl⟩
  have HD := Lib.hid hD
  clear hD
  go_cut [30] (fun s wx => s = .bool D ∧ w1 = wx)
  case first =>
    cases eU : eqS n.u n'.u
    all_goals
      cases eL : eqS n.l n'.l
    all_goals
      cases eP : eqS n.p n'.p
    all_goals
      have fU : (n.u.toList == n'.u.toList) = _ := eU
      have fL : (n.l.toList == n'.l.toList) = _ := eL
      have fP : (n.p.toList == n'.p.toList) = _ := eP
      have hnm : sameNm n n' = (eqS n.u n'.u && eqS n.l n'.l && eqS n.p n'.p) := rfl
      rw [eU, eL, eP] at hnm
      have HD2 := HD.out
      rw [hnm] at HD2
      have HDD := Lib.hid HD2
      clear HD2 hnm eU eL eP
    rotate_right
    · by_cases e1 : k = k'
      rotate_left
      · obtain rfl : D = true := by rw [HDD.out]; simp [e1]
        go_wp2_with fail
        go_meet
        exact ⟨rfl, rfl⟩
      subst e1
      cases eT : eqS t t'
      · have fT : (t.toList == t'.toList) = _ := eT
        obtain rfl : D = true := by rw [HDD.out]; simp [eT]
        clear eT
        go_wp2_with fail
        go_meet
        exact ⟨rfl, rfl⟩
      have fT : (t.toList == t'.toList) = _ := eT
      cases eG : eqS g g'
      · have fG : (g.toList == g'.toList) = _ := eG
        obtain rfl : D = true := by rw [HDD.out]; simp [eG]
        clear eG eT
        go_wp2_with fail
        go_meet
        exact ⟨by first | rfl | simp [bne, fG], rfl⟩
      have fG : (g.toList == g'.toList) = _ := eG
      obtain rfl : D = false := by rw [HDD.out]; simp [eT, eG]
      clear eG eT
      go_wp2_with fail
      go_meet
      exact ⟨by first | rfl | simp [bne, fG], rfl⟩
    all_goals
      by_cases e1 : k = k'
      · obtain rfl : D = true := by rw [HDD.out]; simp
        subst e1
        go_wp2_with fail
        go_meet
        exact ⟨rfl, rfl⟩
      · obtain rfl : D = true := by rw [HDD.out]; simp
        go_wp2_with fail
        go_meet
        exact ⟨rfl, rfl⟩
  case rest =>
    obtain ⟨rfl, rfl⟩ := hcut
    cases D
    rotate_left
    · have hf : F = false := by
        have h1 := HD.out
        rw [← HF.out]
        simp at h1
        rcases h1 with ((h1 | h1) | h1) | h1
        all_goals simp [h1]
      have HFF := Lib.hid hf
      clear hf
      go_wp2_with fail
      go_ret
      exact ⟨ret_bool HFF.out.symm, k1⟩
    have hd := HD.out
    have hall : k = k' ∧ sameNm n n' = true ∧ eqS t t' = true ∧ eqS g g' = true := by
      simp at hd
      obtain ⟨⟨⟨h1, h2⟩, h3⟩, h4⟩ := hd
      exact ⟨h1, h2, h3, h4⟩
    obtain ⟨rfl, a1, a2, a3⟩ := hall
    have hF2 : F = (X1 && X2 && X3) := by
      rw [← HF.out, a1, a2, a3]
      simp
    have HF2 := Lib.hid hF2
    have c4 : w1.cell? ⟨g1, 4, none⟩ = some (.slice bA bn bc) := bf 4
    have d4 : w1.cell? ⟨g2, 4, none⟩ = some (.slice bA' bn' bc') := bf2 4
    clear hd a1 a2 a3 hF2 HD HF bf bf2
    go_wp2_with fail
    refine (H1.out w1 k1).mono ?_
    rintro e w2 ⟨rfl, k2⟩
    have c5 : w2.cell? ⟨g1, 5, none⟩ = some (.slice aA an ac) := (b1.kept k2).cell 5
    have d5 : w2.cell? ⟨g2, 5, none⟩ = some (.slice aA' an' ac') := (b2.kept k2).cell 5
    have K2 := k1.trans k2
    cases X1
    · have HFF := Lib.hid (show F = false by rw [HF2.out]; rfl)
      go_wp2_with fail
      go_ret
      exact ⟨ret_bool HFF.out.symm, K2⟩
    go_wp2_with fail
    refine (H2.out w2 K2).mono ?_
    rintro e w3 ⟨rfl, k3⟩
    have c8 : w3.cell? ⟨g1, 8, none⟩ = some (.slice kA kn kc) := ((b1.kept k2).kept k3).cell 8
    have d8 : w3.cell? ⟨g2, 8, none⟩ = some (.slice kA' kn' kc') := ((b2.kept k2).kept k3).cell 8
    have K3 := K2.trans k3
    cases X2
    · have HFF := Lib.hid (show F = false by rw [HF2.out]; rfl)
      go_wp2_with fail
      go_ret
      exact ⟨ret_bool HFF.out.symm, K3⟩
    go_wp2_with fail
    refine (H3.out w3 K3).mono ?_
    rintro e w4 ⟨rfl, k4⟩
    have HFF := Lib.hid (show F = X3 by rw [HF2.out]; simp)
    go_wp2_with fail
    go_ret
    exact ⟨ret_bool HFF.out.symm, K3.trans k4⟩
end Go.Proofs.Ytnlncamiaddhfaa
