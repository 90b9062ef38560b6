/- info.Alike: walked. Printed by gen_infad.py. -/
import Derived.Test.YtnlncamiaddhfaaInfAc
namespace Go.Proofs.Ytnlncamiaddhfaa
open Go.RowKit
attribute [local go_sem ↓] Go.wp_at_zero Go.wp_at_succ

theorem eqL_alike : ∀ l l' : List Tr, eqL alikeT l l' = alikeL l l'
  | [], [] => rfl
  | [], _ :: _ => rfl
  | _ :: _, [] => rfl
  | x :: xs, y :: ys => by rw [eqL, alikeL, eqL_alike xs ys]
set_option maxRecDepth 100000 in
set_option maxHeartbeats 8000000 in
theorem alike_any (x : Nd) : ∀ (y : Nd) (w : World), x.ok w → y.ok w → Small x.tr → Small y.tr → Calls Try.prog 24 #[x.val, y.val] w fun e w' => e = .returned (.bool (alikeT x.tr y.tr)) ∧ Kept w w' := by
  induction x using Nd.ind with
  | h k n bA bn bc bs aA an ac al t g kA kn kc ks ih =>
  intro y w hok hok2 hsm hsm2
  obtain ⟨k', n', bA', bn', bc', bs', aA', an', ac', al', t', g', kA', kn', kc', ks'⟩ := y
  obtain ⟨hb, ha, h, hks⟩ := hok.parts
  obtain ⟨hb', ha', h', hks'⟩ := hok2.parts
  have hal := ha.llen (enc := Att.cells) (fun _ => rfl) (by have := ha.cap; have := ha.max; omega)
  have hal' := ha'.llen (enc := Att.cells) (fun _ => rfl) (by have := ha'.cap; have := ha'.max; omega)
  rw [Nd.tr_mk] at hsm hsm2
  have hS : al.length ≤ 100 ∧ ∀ x ∈ ks, Small x.tr := by
    cases hsm with
    | mk h1 h2 h3 h4 => exact ⟨h2, fun x hx => h4 _ (List.mem_map_of_mem hx)⟩
  have hS' : al'.length ≤ 100 ∧ ∀ x ∈ ks', Small x.tr := by
    cases hsm2 with
    | mk h1 h2 h3 h4 => exact ⟨h2, fun x hx => h4 _ (List.mem_map_of_mem hx)⟩
  have hE := fun args w => fn_enters Try.func24 (by kernel_rfl) (by kernel_rfl) args w
  have H3 : Hid (∀ w', Kept w w' → Calls Try.prog 32 #[.slice kA kn kc, .slice kA' kn' kc', .func (.func 24) #[] #[]] w' fun e w'' => e = .returned (.bool (alikeL (ks.map Nd.tr) (ks'.map Nd.tr))) ∧ Kept w' w'') := by
    intro w' kk
    have h1 := eqFunc_any 24 alikeT hE kA kn kc ks kA' kn' kc' ks' w' ⟨h.kept kk, fun x hx => (hks x hx).kept kk⟩ ⟨h'.kept kk, fun x hx => (hks' x hx).kept kk⟩ (fun x hx y hy w'' kk2 => ih x hx y w'' (((hks x hx).kept kk).kept kk2) (((hks' y hy).kept kk).kept kk2) (hS.2 x hx) (hS'.2 y hy))
    rw [eqL_alike] at h1
    exact h1
  have HAA := Lib.hid (show _ ∧ _ from ⟨ha, ha'⟩)
  have HAL := Lib.hid (show al.length = an ∧ al'.length = an' from ⟨hal, hal'⟩)
  have han : an ≤ 100 := by omega
  have han' : an' ≤ 100 := by omega
  rw [Nd.tr_mk, Nd.tr_mk, alikeT_mk]
  clear ih hks hks' hok hok2 hb ha h hb' ha' h' hE hsm hsm2 hS hS' hal hal'
  obtain ⟨X3, hX3⟩ : ∃ X3, alikeL (ks.map Nd.tr) (ks'.map Nd.tr) = X3 := ⟨_, rfl⟩
  rw [hX3] at H3
  rw [hX3]
  clear hX3
  obtain ⟨F, hF⟩ : ∃ F, (decide (k = k') && meansNm n n' && eqS t t' && eqS g g' && attsT al al' && X3) = F := ⟨_, rfl⟩
  rw [hF]
  have HF := Lib.hid hF
  clear hF
  show Calls Try.prog 24 #[.agg #[.int .i64 k, .string n.u, .string n.l, .string n.p, .slice bA bn bc, .slice aA an ac, .string t, .string g, .slice kA kn kc], .agg #[.int .i64 k', .string n'.u, .string n'.l, .string n'.p, .slice bA' bn' bc', .slice aA' an' ac', .string t', .string g', .slice kA' kn' kc']] w _
  have k1 := ((Kept.refl w).alloc (.cells (ndc k n bA bn bc aA an ac t g kA kn kc) 36)).alloc (.cells (ndc k' n' bA' bn' bc' aA' an' ac' t' g' kA' kn' kc') 36)
  have b1 := (Blk.new w (ndc k n bA bn bc aA an ac t g kA kn kc) 36).alloc (.cells (ndc k' n' bA' bn' bc' aA' an' ac' t' g' kA' kn' kc') 36)
  have z1 := Blk.new (w.alloc (.cells (ndc k n bA bn bc aA an ac t g kA kn kc) 36)) (ndc k' n' bA' bn' bc' aA' an' ac' t' g' kA' kn' kc') 36
  go_enter Try.func24, Try.ntmps24
  go_upto_region 1 with fail
  generalize (w.alloc (.cells (ndc k n bA bn bc aA an ac t g kA kn kc) 36)).alloc (.cells (ndc k' n' bA' bn' bc' aA' an' ac' t' g' kA' kn' kc') 36) = w1 at k1 b1 z1 ⊢
  have b2 : Blk w1 (w.heap.size + 1) (ndc k' n' bA' bn' bc' aA' an' ac' t' g' kA' kn' kc') 36 := by simpa using z1
  clear z1
  obtain ⟨g1, hg1⟩ : ∃ g1, w.heap.size = g1 := ⟨_, rfl⟩
  obtain ⟨g2, hg2⟩ : ∃ g2, w.heap.size + 1 = g2 := ⟨_, rfl⟩
  rw [hg2] at b2 ⊢
  rw [hg1] at b1 ⊢
  clear hg1 hg2
  obtain ⟨D, hD⟩ : ∃ D : Bool, D = !(decide (k = k') && meansNm n n' && eqS t t' && eqS g g' && decide (an = an')) := ⟨_, rfl⟩
  have HD := Lib.hid hD
  clear hD
  have HM := Lib.hid (fun w' => smeans_any n n' w')
  simp only [Nm.val] at HM
  go_cut [41] (fun s wx => s = .bool D ∧ Kept w1 wx)
  case first =>
    have bf := b1.cell
    have bf2 := b2.cell
    have c0 : w1.cell? ⟨g1, 0, none⟩ = some (.int .i64 k) := bf 0
    have c1 : w1.cell? ⟨g1, 1, none⟩ = some (.string n.u) := bf 1
    have c2 : w1.cell? ⟨g1, 2, none⟩ = some (.string n.l) := bf 2
    have c3 : w1.cell? ⟨g1, 3, none⟩ = some (.string n.p) := bf 3
    have d0 : w1.cell? ⟨g2, 0, none⟩ = some (.int .i64 k') := bf2 0
    have d1 : w1.cell? ⟨g2, 1, none⟩ = some (.string n'.u) := bf2 1
    have d2 : w1.cell? ⟨g2, 2, none⟩ = some (.string n'.l) := bf2 2
    have d3 : w1.cell? ⟨g2, 3, none⟩ = some (.string n'.p) := bf2 3
    clear bf bf2
    by_cases e1 : k = k'
    rotate_left
    · obtain rfl : D = true := by rw [HD.out]; simp [e1]
      go_wp2_with fail
      go_meet
      exact ⟨by first | rfl | simp [bne, e1], Kept.refl _⟩
    subst e1
    obtain ⟨M, hM⟩ : ∃ M, meansNm n n' = M := ⟨_, rfl⟩
    rw [hM] at HM
    have HMM := Lib.hid hM
    clear hM
    go_wp2_with fail
    refine (HM.out w1).mono ?_
    rintro e w2 ⟨rfl, k2⟩
    clear c0 c1 c2 c3 d0 d1 d2 d3
    have bf := (b1.kept k2).cell
    have bf2 := (b2.kept k2).cell
    have c5 : w2.cell? ⟨g1, 5, none⟩ = some (.slice aA an ac) := bf 5
    have c6 : w2.cell? ⟨g1, 6, none⟩ = some (.string t) := bf 6
    have c7 : w2.cell? ⟨g1, 7, none⟩ = some (.string g) := bf 7
    have d5 : w2.cell? ⟨g2, 5, none⟩ = some (.slice aA' an' ac') := bf2 5
    have d6 : w2.cell? ⟨g2, 6, none⟩ = some (.string t') := bf2 6
    have d7 : w2.cell? ⟨g2, 7, none⟩ = some (.string g') := bf2 7
    clear bf bf2
    cases M
    · obtain rfl : D = true := by rw [HD.out, HMM.out]; simp
      go_wp2_with fail
      go_meet
      exact ⟨rfl, k2⟩
    cases eT : eqS t t'
    · have fT : (t.toList == t'.toList) = _ := eT
      obtain rfl : D = true := by rw [HD.out]; simp [eT]
      clear eT
      go_wp2_with fail
      go_meet
      exact ⟨by first | rfl | simp [bne, fT], k2⟩
    have fT : (t.toList == t'.toList) = _ := eT
    cases eG : eqS g g'
    · have fG : (g.toList == g'.toList) = _ := eG
      obtain rfl : D = true := by rw [HD.out]; simp [eG]
      clear eG eT
      go_wp2_with fail
      go_meet
      exact ⟨by first | rfl | simp [bne, fG], k2⟩
    have fG : (g.toList == g'.toList) = _ := eG
    by_cases e2 : an = an'
    rotate_left
    · have i2 : ¬ (an : Int) = an' := by omega
      have i2' : ((an : Int) != an') = true := by simpa using i2
      obtain rfl : D = true := by rw [HD.out]; simp [e2]
      clear eG eT
      go_wp2_with fail
      go_meet
      exact ⟨by first | rfl | simp [i2'], k2⟩
    subst e2
    obtain rfl : D = false := by rw [HD.out, HMM.out]; simp [eT, eG]
    clear eG eT
    go_wp2_with fail
    go_meet
    exact ⟨by first | rfl | simp [bne], k2⟩
  case rest =>
    obtain ⟨rfl, k12⟩ := hcut
    obtain ⟨w2, hw2⟩ : ∃ z, z = wc := ⟨_, rfl⟩
    subst hw2
    have K2 := k1.trans k12
    cases D
    rotate_left
    · have hf : F = false := by
        have h1 := HD.out
        rw [← HF.out]
        by_cases e2 : an = an'
        · simp [e2] at h1
          rcases h1 with ((h1 | h1) | h1) | h1
          all_goals simp [h1]
        · rw [attsT_len (by rw [HAL.out.1, HAL.out.2]; exact e2)]
          simp
      have HFF := Lib.hid hf
      clear hf
      go_wp2_with fail
      go_ret
      exact ⟨ret_bool HFF.out.symm, K2⟩
    have hd := HD.out
    have hall : k = k' ∧ meansNm n n' = true ∧ eqS t t' = true ∧ eqS g g' = true ∧ an = an' := by
      simp at hd
      obtain ⟨⟨⟨⟨h1, h2⟩, h3⟩, h4⟩, h5⟩ := hd
      exact ⟨h1, h2, h3, h4, h5⟩
    obtain ⟨rfl, a1, a2, a3, rfl⟩ := hall
    have hF2 : F = (attsT al al' && X3) := by
      rw [← HF.out, a1, a2, a3]
      simp
    rw [attsT_count (by rw [HAL.out.1, HAL.out.2])] at hF2
    have HF2 := Lib.hid hF2
    have hheld : Held w2 g1 g2 aA an ac al aA' an ac' al' := ⟨(b1.kept k12).cell 5, (b2.kept k12).cell 5, HAA.out.1.kept K2, HAA.out.2.kept K2⟩
    have HC := Lib.hid (containsF_any w2 g1 g2 an ac an ac' aA aA' al al' hheld (by omega) (by omega))
    have c5 : w2.cell? ⟨g1, 5, none⟩ = some (.slice aA an ac) := hheld.c1
    obtain ⟨X1, hX1⟩ : ∃ X1, al.any (fun x => oftenN al x != oftenN al' x) = X1 := ⟨_, rfl⟩
    rw [hX1] at HC
    have HX1 := Lib.hid hX1
    clear hd a1 a2 a3 hF2 HD HF hheld hX1 HM
    go_wp2_with fail
    refine HC.out.mono ?_
    rintro e w3 ⟨rfl, k3⟩
    have K3 := K2.trans k3
    have c8 : w3.cell? ⟨g1, 8, none⟩ = some (.slice kA kn kc) := ((b1.kept k12).kept k3).cell 8
    have d8 : w3.cell? ⟨g2, 8, none⟩ = some (.slice kA' kn' kc') := ((b2.kept k12).kept k3).cell 8
    cases X1
    rotate_left
    · have HFF := Lib.hid (show F = false by rw [HF2.out, HX1.out]; rfl)
      go_wp2_with fail
      go_ret
      exact ⟨ret_bool HFF.out.symm, K3⟩
    have HFF := Lib.hid (show F = X3 by rw [HF2.out, HX1.out]; simp)
    go_wp2_with fail
    refine (H3.out w3 K3).mono ?_
    rintro e w4 ⟨rfl, k4⟩
    go_wp2_with fail
    go_ret
    exact ⟨ret_bool HFF.out.symm, K3.trans k4⟩
end Go.Proofs.Ytnlncamiaddhfaa
