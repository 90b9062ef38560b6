/- The law ConfValue, walked (printed by wip/gen/gen_conah.py). -/
import Derived.Test.YtmicmmbdkmmnoaaConAg
import Derived.Test.YtmicmmbdkmmnoaaConU
import Derived.Test.YtmicmmbdkmmnoaaRefsG
namespace Go.Proofs.Ytmicmmbdkmmnoaa
open Go.RowKit
attribute [local go_sem ↓] Go.wp_at_zero Go.wp_at_succ

/-- What both Values make of runes, and what the law asks of it. -/
def ValOf (l O : List Int) : Prop :=
  (O = l ∧ (l.length < 2 ∨ (2 ≤ l.length ∧ l[0]? ≠ l[l.length - 1]?) ∨ (2 ≤ l.length ∧ ∃ x, l[0]? = some x ∧ l[l.length - 1]? = some x ∧ x ≠ 34 ∧ x ≠ 39))) ∨
  (∃ x M y M', (x = 34 ∨ x = 39) ∧ l = x :: (M ++ [x]) ∧ O = y :: (M' ++ [y]) ∧ M'.length ≤ 400 ∧ ∀ Q, plainlyF M = some Q → plainlyF M' = some Q)
theorem repl_len (q : Int) (sign : List Int) (h : sign.length = 6) : ∀ M : List Int, (replF q sign M).length ≤ 6 * M.length
  | [] => by simp [replF]
  | x :: M => by
    have ih := repl_len q sign h M
    have e : replF q sign (x :: M) = (if x = q then sign else [x]) ++ replF q sign M := List.flatMap_cons
    rw [e, List.length_append, List.length_cons]
    split
    · omega
    · rw [List.length_singleton]
      omega
theorem ends_split {l : List Int} {x : Int} (h2 : 2 ≤ l.length) (hx : l[0]? = some x) (hy : l[l.length - 1]? = some x) : ∃ M, l = x :: (M ++ [x]) := by
  cases l with
  | nil => cases hx
  | cons a t =>
    have ha : a = x := by simpa using hx
    subst ha
    have ht : t ≠ [] := by
      intro e
      subst e
      simp at h2
    refine ⟨t.dropLast, ?_⟩
    have hl := List.dropLast_concat_getLast ht
    have hg : t.getLast ht = a := by
      rw [List.length_cons, Nat.add_sub_cancel] at hy
      have hp : 0 < t.length := List.length_pos_iff.2 ht
      obtain ⟨m, hm⟩ : ∃ m, t.length = m + 1 := ⟨t.length - 1, by omega⟩
      rw [hm, List.getElem?_cons_succ] at hy
      rw [List.getLast_eq_getElem]
      have h3 : t[m]? = some (t[m]'(by omega)) := List.getElem?_eq_getElem _
      rw [hy] at h3
      have h4 := Option.some.inj h3
      simp only [hm, Nat.add_sub_cancel]
      exact h4.symm
    rw [hg] at hl
    rw [hl]

theorem value_all (w : World) (ci cd cq ce cl : Int) (ct cr : Bool) (A : Option Addr) (n c : Nat) (l : List Int) (h : Sl w 1 A n c (l.map (Value.int .i32))) (hn : n ≤ 60) : ∃ O, ValOf l O ∧ (∀ w', Kept w w' → Calls Try.prog 21 #[.agg #[.int .i64 ci, .int .i64 cd, .int .i64 cq, .int .i64 ce, .int .i64 cl, .bool ct, .bool cr], .slice A n c] w' fun e w'' => RunesOf O w' e w'') ∧
    (∀ w', Kept w w' → Calls Try.prog 22 #[.agg #[.int .i64 ci, .int .i64 cd, .int .i64 cq, .int .i64 ce, .int .i64 cl, .bool ct, .bool cr], .slice A n c] w' fun e w'' => RunesOf O w' e w'') := by
  have hll := h.llen1
  have hk := fun w' (kk : Kept w w') => h.kept kk
  rcases Nat.lt_or_ge n 2 with h2 | h2
  · exact ⟨l, .inl ⟨rfl, .inl (by omega)⟩, fun w' kk => value_short w' ci cd cq ce cl ct cr A n c l (hk w' kk) hn h2, fun w' kk => rvalue_short w' ci cd cq ce cl ct cr A n c l (hk w' kk) hn h2⟩
  by_cases hxy : l[0]? = l[n - 1]?
  rotate_left
  · exact ⟨l, .inl ⟨rfl, .inr (.inl ⟨by omega, by rw [hll]; exact hxy⟩)⟩, fun w' kk => value_ends w' ci cd cq ce cl ct cr A n c l (hk w' kk) hn h2 hxy, fun w' kk => rvalue_ends w' ci cd cq ce cl ct cr A n c l (hk w' kk) hn h2 hxy⟩
  obtain ⟨x, hx⟩ : ∃ x, l[0]? = some x := ⟨l[0]'(by omega), List.getElem?_eq_getElem _⟩
  have hy : l[n - 1]? = some x := by rw [← hxy, hx]
  have hy2 : l[l.length - 1]? = some x := by rw [hll]; exact hy
  obtain ⟨M, hM⟩ := ends_split (by omega) hx hy2
  have hMl : M.length ≤ 60 := by
    rw [hM] at hll
    simp at hll
    omega
  have hb : 0 ≤ (clampF ⟨ci, cd, cq, ce, cl, ct, cr⟩).q ∧ (clampF ⟨ci, cd, cq, ce, cl, ct, cr⟩).q ≤ 2 := near_bd _ _ _ (by omega)
  by_cases x34 : x = 34
  · subst x34
    rcases (show (clampF ⟨ci, cd, cq, ce, cl, ct, cr⟩).q = 0 ∨ (clampF ⟨ci, cd, cq, ce, cl, ct, cr⟩).q = 1 ∨ (clampF ⟨ci, cd, cq, ce, cl, ct, cr⟩).q = 2 by omega) with hq | hq | hq
    · exact ⟨l, .inr ⟨34, M, 34, M, .inl rfl, hM, hM, by omega, fun Q hQ => hQ⟩, fun w' kk => value_keep034 w' ci cd cq ce cl ct cr A n c l (hk w' kk) hn h2 hx hy hq, fun w' kk => rvalue_keep034 w' ci cd cq ce cl ct cr A n c l (hk w' kk) hn h2 hx hy hq⟩
    · exact ⟨l, .inr ⟨34, M, 34, M, .inl rfl, hM, hM, by omega, fun Q hQ => hQ⟩, fun w' kk => value_keep134 w' ci cd cq ce cl ct cr A n c l (hk w' kk) hn h2 hx hy hq, fun w' kk => rvalue_keep134 w' ci cd cq ce cl ct cr A n c l (hk w' kk) hn h2 hx hy hq⟩
    · exact ⟨_, .inr ⟨34, M, 39, replF 39 [38, 97, 112, 111, 115, 59] M, .inl rfl, hM, rfl, by have := repl_len 39 [38, 97, 112, 111, 115, 59] rfl M; omega, fun Q hQ => repl_means (.inr rfl) (by simp [signs]) M.length M Q (Nat.le_refl _) hQ⟩, fun w' kk => value_turn39 w' ci cd cq ce cl ct cr A n c l (hk w' kk) hn M hM hq, fun w' kk => rvalue_turn39 w' ci cd cq ce cl ct cr A n c l (hk w' kk) hn M hM hq⟩
  · by_cases x39 : x = 39
    · subst x39
      rcases (show (clampF ⟨ci, cd, cq, ce, cl, ct, cr⟩).q = 0 ∨ (clampF ⟨ci, cd, cq, ce, cl, ct, cr⟩).q = 1 ∨ (clampF ⟨ci, cd, cq, ce, cl, ct, cr⟩).q = 2 by omega) with hq | hq | hq
      · exact ⟨l, .inr ⟨39, M, 39, M, .inr rfl, hM, hM, by omega, fun Q hQ => hQ⟩, fun w' kk => value_keep039 w' ci cd cq ce cl ct cr A n c l (hk w' kk) hn h2 hx hy hq, fun w' kk => rvalue_keep039 w' ci cd cq ce cl ct cr A n c l (hk w' kk) hn h2 hx hy hq⟩
      · exact ⟨_, .inr ⟨39, M, 34, replF 34 [38, 113, 117, 111, 116, 59] M, .inr rfl, hM, rfl, by have := repl_len 34 [38, 113, 117, 111, 116, 59] rfl M; omega, fun Q hQ => repl_means (.inl rfl) (by simp [signs]) M.length M Q (Nat.le_refl _) hQ⟩, fun w' kk => value_turn34 w' ci cd cq ce cl ct cr A n c l (hk w' kk) hn M hM hq, fun w' kk => rvalue_turn34 w' ci cd cq ce cl ct cr A n c l (hk w' kk) hn M hM hq⟩
      · exact ⟨l, .inr ⟨39, M, 39, M, .inr rfl, hM, hM, by omega, fun Q hQ => hQ⟩, fun w' kk => value_keep239 w' ci cd cq ce cl ct cr A n c l (hk w' kk) hn h2 hx hy hq, fun w' kk => rvalue_keep239 w' ci cd cq ce cl ct cr A n c l (hk w' kk) hn h2 hx hy hq⟩
    · exact ⟨l, .inl ⟨rfl, .inr (.inr ⟨by omega, x, hx, hy2, x34, x39⟩)⟩, fun w' kk => value_none w' ci cd cq ce cl ct cr A n c l (hk w' kk) hn h2 x hx hy x34 x39, fun w' kk => rvalue_none w' ci cd cq ce cl ct cr A n c l (hk w' kk) hn h2 x hx hy x34 x39⟩

set_option maxRecDepth 100000 in
set_option maxHeartbeats 8000000 in
theorem confValue_any (cf : Cf) (A : Option Addr) (n0 c : Nat) (l0 : List Int) (w : World) (h0 : Sl w 1 A n0 c (l0.map (Value.int .i32))) : Calls Try.prog 6 #[cf.val, .slice A n0 c] w fun e w' => e = .returned (.bool true) ∧ Kept w w' := by
  obtain ⟨n, l, h, hn, hcut⟩ : ∃ (n : Nat) (l : List Int), Sl w 1 A n c (l.map (Value.int .i32)) ∧ n ≤ 60 ∧ ((n0 ≤ 60 ∧ n = n0) ∨ (60 < n0 ∧ n = 60)) := by
    by_cases hb : 60 < n0
    · exact ⟨60, l0.take 60, h0.to1 (by omega), Nat.le_refl _, .inr ⟨hb, rfl⟩⟩
    · exact ⟨n0, l0, h0, by omega, .inl ⟨by omega, rfl⟩⟩
  have h0c := h0.cap
  clear h0
  obtain ⟨ci, cd, cq, ce, cl, ct, cr⟩ := cf
  have ho := fun w => ours_any ⟨ci, cd, cq, ce, cl, ct, cr⟩ w
  unfold Cf.val at ho ⊢
  dsimp only at ho ⊢
  have HO := Lib.hid ho
  clear ho
  obtain ⟨O, hV, hv, hr⟩ := value_all w ci cd cq ce cl ct cr A n c l h hn
  have HV := Lib.hid hv
  have HR := Lib.hid hr
  have HVAL := Lib.hid hV
  clear hv hr hV
  have K0 := (Kept.refl w).alloc (.cells #[.int .i64 ci, .int .i64 cd, .int .i64 cq, .int .i64 ce, .int .i64 cl, .bool ct, .bool cr] 27)
  have B0 := Blk.new w #[.int .i64 ci, .int .i64 cd, .int .i64 cq, .int .i64 ce, .int .i64 cl, .bool ct, .bool cr] 27
  have hcut6 : ∀ wv, (Instr.slice 36 (.slice A n0 c) none (some (.int .i64 60)) none).run Try.prog wv = if 60 ≤ c then .ok (.slice A 60 c) wv else (Instr.slice 36 (.slice A n0 c) none (some (.int .i64 60)) none).run Try.prog wv := by
    intro wv
    split
    · exact run_cut_h appT_run A n0 c 60 (by assumption) wv
    · rfl
  have HCUT := Lib.hid hcut6
  clear hcut6
  go_enter Try.func6, Try.ntmps6
  go_upto_if 12 with fail
  generalize w.alloc (.cells #[.int .i64 ci, .int .i64 cd, .int .i64 cq, .int .i64 ce, .int .i64 cl, .bool ct, .bool cr] 27) = w1 at K0 B0 ⊢
  obtain ⟨g, hg⟩ : ∃ g, w.heap.size = g := ⟨_, rfl⟩
  rw [hg] at B0 ⊢
  clear hg
  go_cut [1] (fun s wx => s = .slice A n c ∧ w1 = wx)
  case first =>
    rcases hcut with ⟨h1, h2⟩ | ⟨h1, h2⟩
    · have l1 : ¬ (60 : Int) < n0 := by omega
      have HN := Lib.hid h2
      clear h2
      go_wp2_with fail
      go_meet
      exact ⟨by rw [HN.out], rfl⟩
    · have l1 : (60 : Int) < n0 := by omega
      have HN := Lib.hid h2
      have hc60 : 60 ≤ c := by omega
      have hcut : ∀ wv, (Instr.slice 36 (.slice A n0 c) none (some (.int .i64 60)) none).run Try.prog wv = .ok (.slice A 60 c) wv := by
        intro wv
        rw [HCUT.out wv, if_pos hc60]
      clear h2
      go_wp2_with fail
      go_meet
      exact ⟨by rw [HN.out], rfl⟩
  case rest =>
  obtain ⟨rfl, rfl⟩ := hcut
  clear HCUT h0c
  have bc := B0.cell
  go_wp2_with fail
  refine (HO.out _).mono ?_
  rintro e w2 ⟨rfl, k2⟩
  have K2 := K0.trans k2
  go_wp2_with fail
  refine (HV.out _ K2).mono ?_
  rintro e w3 ⟨VA, VC, rfl, hS3, k3⟩
  have K3 := K2.trans k3
  clear bc
  have bc := ((B0.kept k2).kept k3).cell
  go_wp2_with fail
  refine (HR.out _ K3).mono ?_
  rintro e w4 ⟨UA, UC, rfl, hS4, k4⟩
  clear bc B0 k2
  go_wp2_with fail
  refine (csame_any VA O.length VC UA UC O w4 (hS3.kept k4) hS4).mono ?_
  rintro e w5 ⟨rfl, k5⟩
  have K5 := (K3.trans k4).trans k5
  have hS5 := (hS3.kept k4).kept k5
  have h5 := h.kept K5
  have hll := h.llen1
  clear HO HV HR K0 K2 K3 hS3 hS4 k3 k4 k5 h
  obtain ⟨ON, hON⟩ : ∃ ON, O.length = ON := ⟨_, rfl⟩
  rw [hON] at hS5 ⊢
  go_upto_region 6 with fail
  rcases HVAL.out with ⟨hOl, hcs⟩ | ⟨x, M, y, M', hxq, hl, hO, hM', hpl⟩
  · have HS7 : Hid (∀ w', Kept w5 w' → Calls Try.prog 13 #[.slice VA ON VC, .slice A n c] w' fun e w'' => e = .returned (.bool true) ∧ Kept w' w'') := by
      intro w' kk
      have e : ON = n := by rw [← hON, hOl, hll]
      have h1 := hS5.kept kk
      rw [e, hOl] at h1
      rw [e]
      exact csame_any VA n VC A c l w' h1 (h5.kept kk)
    have KD : Kept w5 w5.drew := (Kept.refl w5).drew
    rw [hll] at hcs
    clear hOl hON HVAL
    rcases hcs with h2 | ⟨h2, hxy⟩ | ⟨h2, x, hx, hy, x34, x39⟩
    · have d1 : decide ((n : Int) < 2) = true := by simp; omega
      clear hll
      go_region
      go_wp2_with fail
      refine (HS7.out _ KD).mono ?_
      rintro e wx ⟨rfl, kx⟩
      go_wp2_with fail
      refine (cawake_any _).mono ?_
      rintro e wy ⟨rfl, ky⟩
      go_wp2_with fail
      go_ret
      exact ⟨rfl, (K5.trans (KD.trans kx)).trans ky⟩
    · obtain ⟨m, hm⟩ : ∃ m, n - 1 = m := ⟨_, rfl⟩
      obtain ⟨b, o, x, y, hA, hx, hy, cx, cy⟩ := two_ends h5 h2
      rw [hx, hy] at hxy
      have xne : ¬ x = y := fun e => hxy (by rw [e])
      have xy : (x != y) = true := by simpa using xne
      clear hxy hx hy
      rw [hm] at cy
      have hm1 : IntKind.i64.wrap ((n : Int) - 1) = (m : Int) := by
        rw [show (n : Int) - 1 = (m : Int) by omega]
        exact IntWalk.i64_in _ (by omega)
      have l2 : (m : Int) < n := by omega
      have l3 : (0 : Int) ≤ m := by omega
      have l4 : 0 < n := by omega
      have l5 : m < n := by omega
      have d1 : decide ((n : Int) < 2) = false := by simp; omega
      subst hA
      clear hll h5 hS5
      go_region
      go_wp2_with fail
      refine (HS7.out _ KD).mono ?_
      rintro e wx ⟨rfl, kx⟩
      go_wp2_with fail
      refine (cawake_any _).mono ?_
      rintro e wy ⟨rfl, ky⟩
      go_wp2_with fail
      go_ret
      exact ⟨rfl, (K5.trans (KD.trans kx)).trans ky⟩
    · obtain ⟨m, hm⟩ : ∃ m, n - 1 = m := ⟨_, rfl⟩
      obtain ⟨b, o, x', y, hA, hx', hy', cx, cy⟩ := two_ends h5 h2
      rw [hx] at hx'
      rw [hy] at hy'
      obtain rfl := Option.some.inj hx'
      obtain rfl := Option.some.inj hy'
      have b34 : (x != 34) = true := by simpa using x34
      have b39 : (x != 39) = true := by simpa using x39
      clear x34 x39 hx hy hx' hy'
      rw [hm] at cy
      have hm1 : IntKind.i64.wrap ((n : Int) - 1) = (m : Int) := by
        rw [show (n : Int) - 1 = (m : Int) by omega]
        exact IntWalk.i64_in _ (by omega)
      have l2 : (m : Int) < n := by omega
      have l3 : (0 : Int) ≤ m := by omega
      have l4 : 0 < n := by omega
      have l5 : m < n := by omega
      have d1 : decide ((n : Int) < 2) = false := by simp; omega
      subst hA
      clear hll h5 hS5
      go_region
      go_wp2_with fail
      refine (HS7.out _ KD).mono ?_
      rintro e wx ⟨rfl, kx⟩
      go_wp2_with fail
      refine (cawake_any _).mono ?_
      rintro e wy ⟨rfl, ky⟩
      go_wp2_with fail
      go_ret
      exact ⟨rfl, (K5.trans (KD.trans kx)).trans ky⟩
  · have KD : Kept w5 w5.drew := (Kept.refl w5).drew
    have hMl : M.length + 2 = n := by
      rw [hl] at hll
      simpa using hll
    have hOl : M'.length + 2 = ON := by
      rw [hO] at hON
      simpa using hON
    have hx : l[0]? = some x := by rw [hl]; rfl
    have hy : l[n - 1]? = some x := by
      rw [hl, show n - 1 = M.length + 1 by omega, List.getElem?_cons_succ, List.getElem?_append_right (Nat.le_refl _), Nat.sub_self]
      rfl
    have hcm : (l.drop 1).take (n - 1 - 1) = M := by
      rw [hl, List.drop_succ_cons, List.drop_zero, show n - 1 - 1 = M.length by omega, List.take_left]
    have hcm' : (O.drop 1).take (ON - 1 - 1) = M' := by
      rw [hO, List.drop_succ_cons, List.drop_zero, show ON - 1 - 1 = M'.length by omega, List.take_left]
    have h2 : 2 ≤ n := by omega
    obtain ⟨b, o, x', y', hA, hx', hy', cx, cy⟩ := two_ends h5 h2
    rw [hx] at hx'
    rw [hy] at hy'
    obtain rfl := Option.some.inj hx'
    obtain rfl := Option.some.inj hy'
    have hcl := h5.cut1 (i := 1) (m := n - 1) (by omega) (by omega)
    have hco := hS5.cut1 (i := 1) (m := ON - 1) (by omega) (by omega)
    rw [hcm] at hcl
    rw [hcm'] at hco
    have hncap := h5.cap
    have hocap := hS5.cap
    have homax := hS5.max
    obtain ⟨m, hm⟩ : ∃ m, n - 1 = m := ⟨_, rfl⟩
    obtain ⟨m', hm'⟩ : ∃ m, ON - 1 = m := ⟨_, rfl⟩
    rw [hm] at cy hcl
    rw [hm'] at hco
    obtain ⟨CA, hCA⟩ : ∃ C, cutA A c 1 1 = C := ⟨_, rfl⟩
    obtain ⟨CO, hCO⟩ : ∃ C, cutA VA VC 1 1 = C := ⟨_, rfl⟩
    rw [hCA] at hcl
    rw [hCO] at hco
    have hcutl : ∀ wv : World, (Instr.slice 36 (.slice A n c) (some (.int .i64 1)) (some (.int .i64 (m : Int))) none).run Try.prog wv = .ok (.slice CA (m - 1) (c - 1)) wv := by
      intro wv
      have h1 := run_cut_lh appT_run A n c 1 m (by omega) (by omega) wv
      rw [hCA] at h1
      exact h1
    have hcuto : ∀ wv : World, (Instr.slice 36 (.slice VA ON VC) (some (.int .i64 1)) (some (.int .i64 (m' : Int))) none).run Try.prog wv = .ok (.slice CO (m' - 1) (VC - 1)) wv := by
      intro wv
      have h1 := run_cut_lh appT_run VA ON VC 1 m' (by omega) (by omega) wv
      rw [hCO] at h1
      exact h1
    have HP1 := Lib.hid (fun w' (kk : Kept w5 w') => plainly_any CA (m - 1) (c - 1) M w' (hcl.kept kk) (by omega))
    have HP2 := Lib.hid (fun w' (kk : Kept w5 w') => plainly_any CO (m' - 1) (VC - 1) M' w' (hco.kept kk) (by omega))
    have HPL := Lib.hid hpl
    have hm1 : IntKind.i64.wrap ((n : Int) - 1) = (m : Int) := by
      rw [show (n : Int) - 1 = (m : Int) by omega]
      exact IntWalk.i64_in _ (by omega)
    have hm2 : IntKind.i64.wrap ((ON : Int) - 1) = (m' : Int) := by
      rw [show (ON : Int) - 1 = (m' : Int) by omega]
      exact IntWalk.i64_in _ (by omega)
    have l2 : (m : Int) < n := by omega
    have l3 : (0 : Int) ≤ m := by omega
    have l4 : 0 < n := by omega
    have l5 : m < n := by omega
    have m1 : (1 : Int) ≤ m := by omega
    have m2 : (m : Int) ≤ c := by omega
    have m3 : (1 : Int) ≤ m' := by omega
    have m4 : (m' : Int) ≤ VC := by omega
    have d1 : decide ((n : Int) < 2) = false := by simp; omega
    have d2 : decide ((ON : Int) < 2) = false := by simp; omega
    clear hCA hCO hcl hco hM' hpl hMl hOl hx hy hx' hy' hcm hcm' h2 hl hO hON HVAL hS5 h5 hll
    subst hA
    rcases hxq with rfl | rfl
    all_goals
      go_region
      clear cx cy d1 d2
      go_wp2_with fail
      refine (HP1.out _ KD).mono ?_
      rintro e wx ⟨hp1, kx⟩
      have KX := KD.trans kx
      cases hP : plainlyF M with
      | none =>
        rw [hP] at hp1
        have he : e = .returned (.tuple #[.slice none 0 0, .bool false]) := hp1
        subst he
        clear hP hp1
        go_wp2_with fail
        refine (HP2.out _ KX).mono ?_
        rintro e wy ⟨hp2, ky⟩
        have KY := KX.trans ky
        cases hP2 : plainlyF M' with
        | none =>
          rw [hP2] at hp2
          have he : e = .returned (.tuple #[.slice none 0 0, .bool false]) := hp2
          subst he
          clear hP2 hp2
          go_wp2_with fail
          refine (cawake_any _).mono ?_
          rintro e wz ⟨rfl, kz⟩
          go_wp2_with fail
          go_ret
          exact ⟨rfl, (K5.trans KY).trans kz⟩
        | some P2 =>
          rw [hP2] at hp2
          obtain ⟨A2, C2, he, _⟩ := (show ∃ VA VC, e = .returned (.tuple #[.slice VA P2.length VC, .bool true]) ∧ Sl wy 1 VA P2.length VC (P2.map (Value.int .i32)) from hp2)
          subst he
          clear hP2 hp2
          go_wp2_with fail
          refine (cawake_any _).mono ?_
          rintro e wz ⟨rfl, kz⟩
          go_wp2_with fail
          go_ret
          exact ⟨rfl, (K5.trans KY).trans kz⟩
      | some P1 =>
        rw [hP] at hp1
        obtain ⟨A1, C1, he, hs1⟩ := (show ∃ VA VC, e = .returned (.tuple #[.slice VA P1.length VC, .bool true]) ∧ Sl wx 1 VA P1.length VC (P1.map (Value.int .i32)) from hp1)
        subst he
        have hP2 := HPL.out P1 hP
        have HPP := Lib.hid hP2
        clear hP hp1 hP2
        go_wp2_with fail
        refine (HP2.out _ KX).mono ?_
        rintro e wy ⟨hp2, ky⟩
        have KY := KX.trans ky
        rw [HPP.out] at hp2
        obtain ⟨A2, C2, he, hs2⟩ := (show ∃ VA VC, e = .returned (.tuple #[.slice VA P1.length VC, .bool true]) ∧ Sl wy 1 VA P1.length VC (P1.map (Value.int .i32)) from hp2)
        subst he
        clear hp2
        have HSS := Lib.hid (csame_any A1 P1.length C1 A2 C2 P1 wy (hs1.kept ky) hs2)
        go_wp2_with fail
        refine HSS.out.mono ?_
        rintro e wq ⟨rfl, kq⟩
        go_wp2_with fail
        refine (cawake_any _).mono ?_
        rintro e wz ⟨rfl, kz⟩
        go_wp2_with fail
        go_ret
        exact ⟨rfl, ((K5.trans KY).trans kq).trans kz⟩
end Go.Proofs.Ytmicmmbdkmmnoaa

