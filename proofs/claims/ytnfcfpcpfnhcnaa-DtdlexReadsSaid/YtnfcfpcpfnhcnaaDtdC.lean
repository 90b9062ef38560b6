/- Layer 9: subset, Parts: walked. -/
import Derived.Test.YtnfcfpcpfnhcnaaDtdB
namespace Go.Proofs.Ytnfcfpcpfnhcnaa
open Go.RowKit
attribute [local go_sem ↓] Go.wp_at_zero Go.wp_at_succ

theorem subP_eq (l : List Int) (a : Nat) (ha : a < l.length) : ∃ E : Nat, a + 1 + closS (l.drop (a + 1)) = E ∧ a + 1 ≤ E ∧ E ≤ l.length ∧
    subP a (l.drop a) = [⟨5, a, (a : Int) + 1⟩] ++ (if a + 1 < E then [⟨6, (a : Int) + 1, E⟩] else []) ++ (if E < l.length then [⟨5, E, (E : Int) + 1⟩] else []) ∧ a + subN (l.drop a) = if E < l.length then E + 1 else E := by
  have h1 := closS_le _ (l.drop (a + 1)) (Nat.le_refl _)
  rw [List.length_drop] at h1
  refine ⟨_, rfl, by omega, by omega, ?_, ?_⟩
  · unfold subP
    rw [List.drop_drop, List.length_drop]
    generalize closS (l.drop (a + 1)) = e at h1 ⊢
    have e1 : (a : Int) + 1 + (e : Int) = ((a + 1 + e : Nat) : Int) := by omega
    have e2 : (a : Int) + 2 + (e : Int) = ((a + 1 + e : Nat) : Int) + 1 := by omega
    have c1 : (a + 1 < a + 1 + e) = (0 < e) := by simp
    have c2 : (a + 1 + e < l.length) = (e + 1 < l.length - a) := by simp; omega
    rw [e1, e2]
    simp only [c1, c2]
  · unfold subN
    rw [List.drop_drop, List.length_drop]
    split <;> split <;> omega
theorem prts_one (L : List Prt) : (L.flatMap prtC).all (fun u => u.oneCell') = true := by
  rw [List.all_eq_true]
  intro x hx
  obtain ⟨p, _, hp⟩ := List.mem_flatMap.1 hx
  simp [prtC] at hp
  rcases hp with rfl | rfl | rfl <;> rfl
theorem subP_facts (l : List Int) (a : Nat) (ha : a < l.length) : (subP a (l.drop a)).length ≤ subN (l.drop a) ∧ 1 ≤ (subP a (l.drop a)).length ∧ ∀ P : List Prt, ∃ q : Prt, (P ++ subP a (l.drop a))[P.length + (subP a (l.drop a)).length - 1]? = some q ∧ q.t = ((a + subN (l.drop a) : Nat) : Int) := by
  obtain ⟨E, _, h1, h2, h3, h4⟩ := subP_eq l a ha
  rw [h3]
  generalize subN (l.drop a) = S at h4 ⊢
  by_cases c1 : a + 1 < E <;> by_cases c2 : E < l.length
  · rw [if_pos c2] at h4
    simp only [if_pos c1, if_pos c2]
    refine ⟨by simp; omega, by simp, fun P => ⟨⟨5, E, (E : Int) + 1⟩, ?_, by dsimp only; omega⟩⟩
    rw [List.getElem?_append_right (by simp)]
    simp
  · rw [if_neg c2] at h4
    simp only [if_pos c1, if_neg c2]
    refine ⟨by simp; omega, by simp, fun P => ⟨⟨6, (a : Int) + 1, E⟩, ?_, by dsimp only; omega⟩⟩
    rw [List.getElem?_append_right (by simp)]
    simp
  · rw [if_pos c2] at h4
    simp only [if_neg c1, if_pos c2]
    refine ⟨by simp; omega, by simp, fun P => ⟨⟨5, E, (E : Int) + 1⟩, ?_, by dsimp only; omega⟩⟩
    rw [List.getElem?_append_right (by simp)]
    simp
  · rw [if_neg c2] at h4
    simp only [if_neg c1, if_neg c2]
    refine ⟨by simp; omega, by simp, fun P => ⟨⟨5, a, (a : Int) + 1⟩, ?_, by dsimp only; omega⟩⟩
    rw [List.getElem?_append_right (by simp)]
    simp
def PrtsOf (L : List Prt) (w : World) (e : Ending) (w' : World) : Prop :=
  ∃ A m c, m = L.length ∧ e = .returned (.slice A m c) ∧ Sl w' 3 A m c (L.flatMap prtC) ∧ Kept w w'
set_option maxHeartbeats 4000000 in
theorem dsubset_any (A : Option Addr) (n c : Nat) (l : List Int) (a : Nat) (w : World) (h : Sl w 1 A n c (l.map (Value.int .i32))) (hn : n ≤ 1000000) (ha : a < n) :
    Calls Try.prog 23 #[.slice A n c, .int .i64 a] w fun e w' => PrtsOf (subP a (l.drop a)) w e w' := by
  have hl := h.llen1
  have hC := fun w' (kk : Kept w w') => dcloses_any A n c l (a + 1) w' (h.kept kk) hn (by omega)
  obtain ⟨E, hE, h1, h2, h3, _⟩ := subP_eq l a (by omega)
  rw [hE] at hC
  rw [h3]
  rw [hl] at h2 ⊢
  have HC := Lib.hid hC
  clear hC hE h3 hl h
  have ws : IntKind.i64.wrap ((a : Int) + 1) = ((a + 1 : Nat) : Int) := by rw [IntWalk.i64_in _ (by omega)]; omega
  have ws2 : IntKind.i64.wrap ((E : Int) + 1) = (E : Int) + 1 := IntWalk.i64_in _ (by omega)
  have own0 : (w.alloc (.cells #[.int .i64 5, .int .i64 a, .int .i64 ((a : Int) + 1)] 32)).ownsRow w.heap.size 32 3 (.slice (some ⟨w.heap.size, 0, none⟩) 1 1) 1 [.int .i64 5, .int .i64 a, .int .i64 ((a : Int) + 1)] := own_lit rfl (by omega) (Nat.le_refl _)
  have k0 : Kept w (w.alloc (.cells #[.int .i64 5, .int .i64 a, .int .i64 ((a : Int) + 1)] 32)) := (Kept.refl w).alloc _
  by_cases p1 : a + 1 < E
  · have q1 : (a : Int) + 1 < (E : Int) := by omega
    by_cases p2 : E < n
    · have q2 : (E : Int) < n := by omega
      rw [if_pos p1, if_pos p2]
      go_enter Try.func23, Try.ntmps23
      go_upto_region 2 with fail
      generalize w.alloc (.cells #[.int .i64 5, .int .i64 a, .int .i64 ((a : Int) + 1)] 32) = w1 at own0 k0 ⊢
      go_wp2_with fail
      refine (HC.out _ k0).mono ?_
      rintro e w2 ⟨rfl, k2⟩
      have ow := own_kept own0 k2
      have kw := k0.trans k2
      go_upto_region 5 with (at_builtin; refine wpList_push w (by rfl) _ _ (by rfl) appT_dprt (by rfl) ow kw (by rfl) ?_ ?_; (exact ⟨by simp, rfl, rfl, by omega⟩); intro v0 x0 own0' kk0 _ _)
      have ow := own0'
      have kw := kk0
      go_wp2_with (at_builtin; refine wpList_push w (by rfl) _ _ (by rfl) appT_dprt (by rfl) ow kw (by rfl) ?_ ?_; (exact ⟨by simp, rfl, rfl, by omega⟩); intro v1 x1 own1' kk1 _ _)
      have ow := own1'
      have kw := kk1
      obtain ⟨VA, VC, hVV, hV⟩ := Sl.of_own ow
      subst hVV
      go_ret
      exact ⟨_, 3, _, rfl, rfl, hV, kw⟩
    · have q2 : ¬ (E : Int) < n := by omega
      rw [if_pos p1, if_neg p2]
      go_enter Try.func23, Try.ntmps23
      go_upto_region 2 with fail
      generalize w.alloc (.cells #[.int .i64 5, .int .i64 a, .int .i64 ((a : Int) + 1)] 32) = w1 at own0 k0 ⊢
      go_wp2_with fail
      refine (HC.out _ k0).mono ?_
      rintro e w2 ⟨rfl, k2⟩
      have ow := own_kept own0 k2
      have kw := k0.trans k2
      go_wp2_with (at_builtin; refine wpList_push w (by rfl) _ _ (by rfl) appT_dprt (by rfl) ow kw (by rfl) ?_ ?_; (exact ⟨by simp, rfl, rfl, by omega⟩); intro v0 x0 own0' kk0 _ _)
      have ow := own0'
      have kw := kk0
      obtain ⟨VA, VC, hVV, hV⟩ := Sl.of_own ow
      subst hVV
      go_ret
      exact ⟨_, 2, _, rfl, rfl, hV, kw⟩
  · have q1 : ¬ (a : Int) + 1 < (E : Int) := by omega
    by_cases p2 : E < n
    · have q2 : (E : Int) < n := by omega
      rw [if_neg p1, if_pos p2]
      go_enter Try.func23, Try.ntmps23
      go_upto_region 2 with fail
      generalize w.alloc (.cells #[.int .i64 5, .int .i64 a, .int .i64 ((a : Int) + 1)] 32) = w1 at own0 k0 ⊢
      go_wp2_with fail
      refine (HC.out _ k0).mono ?_
      rintro e w2 ⟨rfl, k2⟩
      have ow := own_kept own0 k2
      have kw := k0.trans k2
      go_wp2_with (at_builtin; refine wpList_push w (by rfl) _ _ (by rfl) appT_dprt (by rfl) ow kw (by rfl) ?_ ?_; (exact ⟨by simp, rfl, rfl, by omega⟩); intro v0 x0 own0' kk0 _ _)
      have ow := own0'
      have kw := kk0
      obtain ⟨VA, VC, hVV, hV⟩ := Sl.of_own ow
      subst hVV
      go_ret
      exact ⟨_, 2, _, rfl, rfl, hV, kw⟩
    · have q2 : ¬ (E : Int) < n := by omega
      rw [if_neg p1, if_neg p2]
      go_enter Try.func23, Try.ntmps23
      go_upto_region 2 with fail
      generalize w.alloc (.cells #[.int .i64 5, .int .i64 a, .int .i64 ((a : Int) + 1)] 32) = w1 at own0 k0 ⊢
      go_wp2_with fail
      refine (HC.out _ k0).mono ?_
      rintro e w2 ⟨rfl, k2⟩
      have ow := own_kept own0 k2
      have kw := k0.trans k2
      go_wp2_with fail
      obtain ⟨VA, VC, hVV, hV⟩ := Sl.of_own ow
      injection hVV with e1 e2 e3
      subst e1 e3
      go_ret
      exact ⟨_, 1, _, rfl, rfl, hV, kw⟩

theorem take_take_le {α : Type} (l : List α) (T : Nat) : (l.take T).take T = l.take T := by rw [List.take_take, Nat.min_self]
set_option maxHeartbeats 4000000 in
theorem dparts_any (A : Option Addr) (n c : Nat) (l : List Int) (f t : Int) (w : World) (h : Sl w 1 A n c (l.map (Value.int .i32))) (hn : n ≤ 1000000) :
    Calls Try.prog 9 #[.slice A n c, .int .i64 f, .int .i64 t] w fun e w' => PrtsOf (partL l f t) w e w' := by
  have hcap := h.cap
  have hmax := h.max
  have hl := h.llen1
  have hin := fun w' => din_any A n c f t w'
  by_cases hbad : f < 0 ∨ t < f ∨ (l.length : Int) < t
  · have HV : Hid (partL l f t = []) := by unfold Hid partL; rw [if_pos hbad]
    rw [hl] at hbad
    rw [show decide (0 ≤ f ∧ f ≤ t ∧ t ≤ n) = false from decide_eq_false (by omega)] at hin
    have HI := Lib.hid hin
    clear hbad hin
    go_enter Try.func9, Try.ntmps9
    go_wp2_with fail
    refine (HI.out _).mono ?_
    rintro e w1 ⟨rfl, rfl⟩
    go_wp2_with fail
    go_ret
    rw [HV.out]
    exact ⟨none, 0, 0, rfl, rfl, Sl.nil_, Kept.refl _⟩
  · have hv : partL l f t = if startsF dts ((l.take t.toNat).drop f.toNat) then ⟨1, f, f + 9⟩ :: partX (f + 9) ((l.take t.toNat).drop (f.toNat + 9)) false else chainX wordF f ((l.take t.toNat).drop f.toNat) := by
      unfold partL
      rw [if_neg hbad]
    rw [hl] at hbad
    rw [show decide (0 ≤ f ∧ f ≤ t ∧ t ≤ n) = true from decide_eq_true (by omega)] at hin
    have HI := Lib.hid hin
    clear hin
    obtain ⟨F, rfl⟩ := Int.eq_ofNat_of_zero_le (show 0 ≤ f by omega)
    obtain ⟨T, rfl⟩ := Int.eq_ofNat_of_zero_le (show 0 ≤ t by omega)
    rw [Int.toNat_natCast, Int.toNat_natCast] at hv
    have hFT : F ≤ T := by omega
    have hTn : T ≤ n := by omega
    have hs := h.to1 (m := T) hTn
    have hsl : (l.take T).length = T := by rw [List.length_take, hl]; omega
    have hrow : rowL wordF (l.take T) F T = chainX wordF F ((l.take T).drop F) := by
      unfold rowL
      rw [if_neg (by rw [hsl]; omega), Int.toNat_natCast, Int.toNat_natCast, take_take_le]
    have hcut : ∀ wv : World, (Instr.slice 22 (.slice A n c) none (some (.int .i64 T)) none).run Try.prog wv = .ok (.slice A T c) wv := run_cut_h appT_runes A n c T (by omega)
    rw [← hrow] at hv
    obtain ⟨R, hR⟩ : ∃ R, partL l F T = R := ⟨_, rfl⟩
    rw [hR] at hv ⊢
    clear hR hbad hl h
    generalize l.take T = s at hs hsl hrow hv
    have hlT : T ≤ 1000000 := by omega
    have HST := Lib.hid (starts_any A T c s F ⟨#[60, 33, 68, 79, 67, 84, 89, 80, 69]⟩ w hs (by decide) (by decide) hlT (by omega) (by decide))
    rw [show strI ⟨#[60, 33, 68, 79, 67, 84, 89, 80, 69]⟩ = dts from rfl] at HST
    have h9 := startsF_len (p := dts) (s := s.drop F)
    rw [List.length_drop, hsl] at h9
    have HSL := Lib.hid hsl
    have HRW := Lib.hid hrow
    obtain ⟨b, hb⟩ : ∃ b, startsF dts (s.drop F) = b := ⟨_, rfl⟩
    rw [hb] at HST hv h9
    clear hb hsl hrow
    cases b
    · have HV := Lib.hid (show R = rowL wordF s F T by simpa using hv)
      have HW := Lib.hid (fun w' (kk : Kept w w') => dwords_any A T c s F T w' (hs.kept kk) hlT)
      clear hv h9
      go_enter Try.func9, Try.ntmps9
      go_wp2_with fail
      refine (HI.out _).mono ?_
      rintro e w1 ⟨rfl, rfl⟩
      go_wp2_with fail
      refine HST.out.mono ?_
      rintro e w1 ⟨rfl, k1⟩
      go_wp2_with fail
      refine (HW.out _ k1).mono ?_
      rintro e w2 ⟨A', m, c', hm, rfl, hS, k2⟩
      have HM := Lib.hid hm
      clear hm
      go_wp2_with fail
      go_ret
      rw [HV.out]
      exact ⟨A', m, c', HM.out, rfl, hS, k1.trans k2⟩
    · have hF9 : F + 9 ≤ T := by
        have := h9 rfl
        simp [dts] at this
        omega
      have HV := Lib.hid (show R = ⟨1, (F : Int), (F : Int) + 9⟩ :: partX ((F + 9 : Nat) : Int) (s.drop (F + 9)) false by
        rw [hv, if_pos rfl]
        simp)
      have ws9 : IntKind.i64.wrap ((F : Int) + 9) = (F : Int) + 9 := IntWalk.i64_in _ (by omega)
      clear hv h9
      go_enter Try.func9, Try.ntmps9
      go_wp2_with fail
      refine (HI.out _).mono ?_
      rintro e w1 ⟨rfl, rfl⟩
      go_wp2_with fail
      refine HST.out.mono ?_
      rintro e w1 ⟨rfl, k1⟩
      go_upto_region 7 with fail
      have own0 : (w1.alloc (.cells #[.int .i64 1, .int .i64 F, .int .i64 ((F : Int) + 9)] 32)).ownsRow w.heap.size 32 3 (.slice (some ⟨w1.heap.size, 0, none⟩) 1 1) 1 ([(⟨1, (F : Int), (F : Int) + 9⟩ : Prt)].flatMap prtC) := own_lit rfl (by omega) k1.size
      have k2 : Kept w (w1.alloc (.cells #[.int .i64 1, .int .i64 F, .int .i64 ((F : Int) + 9)] 32)) := k1.alloc _
      generalize w1.alloc (.cells #[.int .i64 1, .int .i64 F, .int .i64 ((F : Int) + 9)] 32) = w2 at own0 k2 ⊢
      generalize w1.heap.size = g0 at own0 ⊢
      go_wp2_with fail
      go_loopw [7, 8, 9] (fun v op i wr => ∃ (k : Nat) (P : List Prt) (q : Bool), F + 9 ≤ k ∧ k ≤ T ∧ i = .int .i64 k ∧ op = .bool q ∧ wr.ownsRow w.heap.size 32 3 v P.length (P.flatMap prtC) ∧ Kept w wr ∧ 1 ≤ P.length ∧ P.length ≤ k ∧
        Hid (R = P ++ partX k (s.drop k) q)) (fun _ _ i _ => T - (intOf i).toNat)
      case atStart => exact ⟨F + 9, [⟨1, (F : Int), (F : Int) + 9⟩], false, Nat.le_refl _, hF9, by go_num, rfl, own0, k2, Nat.le_refl _, by simp, HV.out⟩
      case round =>
        obtain ⟨k, P, q, hFk, hkT, rfl, rfl, hown, hkept, hP1, hPk, hinv⟩ := hrel
        by_cases hlt : k < T
        rotate_left
        · obtain rfl : k = T := by omega
          have HE : Hid (R = P) := by
            unfold Hid
            rw [hinv.out, List.drop_eq_nil_of_le (by rw [HSL.out]; omega), partX_nil, List.append_nil]
          obtain ⟨A', c', rfl, hV⟩ := Sl.of_own hown
          go_wp2_with fail
          go_ret
          rw [HE.out]
          exact ⟨A', P.length, c', rfl, rfl, hV, hkept⟩
        have hsw := hs.kept hkept
        obtain ⟨bb, oo, x, rfl, hx, hc, hbb⟩ := hsw.oneb hlt
        have hne : s.drop k ≠ [] := by rw [drop_get hx]; simp
        have hx0 : (s.drop k)[0]? = some x := by rw [List.getElem?_drop]; exact hx
        have hbd := wordF_bd (s.drop k) hne
        have hcut2 : ∀ wv : World, (Instr.slice 22 (.slice (some ⟨bb, oo, none⟩) T c) (some (.int .i64 k)) none none).run Try.prog wv = .ok (.slice (cutA (some ⟨bb, oo, none⟩) c k 1) (T - k) (c - k)) wv := run_cut_l appT_runes (some ⟨bb, oo, none⟩) T c k (by omega)
        have hsl2 := hsw.from1 (i := k) (by omega)
        obtain ⟨CA, hCA⟩ : ∃ CA, cutA (some ⟨bb, oo, none⟩) c k 1 = CA := ⟨_, rfl⟩
        rw [hCA] at hcut2 hsl2
        have hwd := dword_any CA (T - k) (c - k) (s.drop k) wr hsl2 (by omega) (by omega)
        have hsub := fun w' (kk : Kept wr w') => dsubset_any (some ⟨bb, oo, none⟩) T c s k w' (hsw.kept kk) hlT hlt
        have hfacts := subP_facts s k (by rw [HSL.out]; exact hlt)
        have hsubn := subN_bd (s.drop k) hne
        rw [List.length_drop, HSL.out] at hbd hsubn
        have h62 : (s.drop k = [62]) = (x = 62 ∧ k + 1 = T) := by
          rw [drop_get hx]
          have hl1 : (s.drop (k + 1)).length = T - (k + 1) := by rw [List.length_drop, HSL.out]
          apply propext
          constructor
          · intro e
            injection e with e1 e2
            rw [e2] at hl1
            simp at hl1
            exact ⟨e1, by omega⟩
          · rintro ⟨rfl, e2⟩
            rw [List.eq_nil_of_length_eq_zero (l := s.drop (k + 1)) (by omega)]
        have hsubX := fun e : x = 91 => partX_sub (k : Int) (s := s.drop k) (by rw [hx0, e])
        have hwordX := fun e => partX_word (k : Int) (s := s.drop k) (op := q) hne e
        rw [hx0] at hwordX
        simp only [Option.some.injEq, h62] at hwordX
        rw [List.drop_drop] at hsubX hwordX
        obtain ⟨K, N, hKN⟩ : ∃ K N, wordF (s.drop k) = (K, N) := ⟨_, _, rfl⟩
        rw [hKN] at hbd hwd hwordX
        dsimp only at hbd hwd hwordX
        obtain ⟨hb1, hb2⟩ := hbd
        have HWD := Lib.hid hwd
        have HSUB := Lib.hid hsub
        have HWX := Lib.hid hwordX
        have HSX := Lib.hid hsubX
        have HFC := Lib.hid hfacts
        clear hwd hsub hwordX hsubX hfacts hKN hx hx0 hne hCA hsl2 h62 hsw
        by_cases h91 : x = 91
        · subst h91
          cases q
          · obtain ⟨f1, f2, f3⟩ := HFC.out
            obtain ⟨lq, hlq, hlt_⟩ := f3 P
            have HE := Lib.hid (show R = (P ++ subP k (s.drop k)) ++ partX ((k + subN (s.drop k) : Nat) : Int) (s.drop (k + subN (s.drop k))) true by
              rw [hinv.out, HSX.out rfl, List.append_assoc]
              simp)
            generalize subN (s.drop k) = S at hsubn f1 hlt_ HE
            generalize subP k (s.drop k) = SP at f1 f2 hlq HE HSUB
            have HLQ := Lib.hid hlq
            clear f3 hlq HFC HSX HWX hinv
            go_wp2_with fail
            refine HWD.out.mono ?_
            rintro e w3 ⟨rfl, k3⟩
            have hk3 := hkept.trans k3
            have ow3 := own_kept hown k3
            have hc3 := k3.cell hc
            have hb3 := World.block_lt_of_cell? _ _ hc3
            go_wp2_with fail
            refine (HSUB.out _ k3).mono ?_
            rintro e w4 ⟨SA, m, sc, hm, rfl, hSP, k4⟩
            have hk4 := hk3.trans k4
            have ow4 := own_kept ow3 k4
            have hmm : m ≤ S := by omega
            have hm1 : 1 ≤ m := by omega
            have HM := Lib.hid hm
            clear hm
            go_upto_region 16 with (at_builtin; refine wpList_appk w (by rfl) _ _ (by rfl) appT_dprt (by rfl) ow4 hk4 (by rfl) hSP ?_ ?_; (exact ⟨prts_one _, by omega⟩); intro v5 w5 hown5 hk5 hgr5 hob5)
            obtain ⟨VA, VC, rfl, hV⟩ := Sl.of_own hown5
            rw [← List.flatMap_append] at hV hown5
            obtain ⟨vb, vo, vq, rfl, hvq, hvc, hvb⟩ := hV.elemb prtC_len (by omega) (k := P.length + m - 1) (by omega)
            have hvq' : vq = lq := by
              have h1 := HLQ.out
              rw [← HM.out, hvq] at h1
              injection h1
            have hto : w5.cell? ⟨vb, vo + (P.length + m - 1) * 3 + 2, none⟩ = some (.int .i64 ((k + S : Nat) : Int)) := by
              rw [← hlt_, ← hvq']
              exact hvc 2 _ rfl
            have hcap5 := hV.cap
            have hmax5 := hV.max
            have wsl : IntKind.i64.wrap (((P.length + m : Nat) : Int) - 1) = ((P.length + m - 1 : Nat) : Int) := by rw [IntWalk.i64_in _ (by omega)]; omega
            obtain ⟨j, hj⟩ : ∃ j, P.length + m - 1 = j := ⟨_, rfl⟩
            obtain ⟨N5, hN5⟩ : ∃ N5, P.length + m = N5 := ⟨_, rfl⟩
            have HLN := Lib.hid (show (P ++ SP).length = N5 by rw [List.length_append, ← HM.out]; exact hN5)
            have hPN : 1 ≤ N5 ∧ N5 ≤ k + S ∧ j < N5 := by omega
            rw [hj] at hto wsl
            rw [hN5] at hcap5 wsl hown5 hV ⊢
            clear hvq hvc hvq' hlt_ HLQ hj hV hN5 hm1 hmm
            have lj : (j : Int) < N5 := by omega
            have lj0 : (0 : Int) ≤ j := by omega
            go_wp2_with fail
            go_roundw
            case rel =>
              refine ⟨k + S, P ++ SP, true, by omega, by omega, by go_num, rfl, ?_, hk5, ?_, ?_, HE⟩
              · rw [HLN.out]
                exact hown5
              · rw [HLN.out]
                exact hPN.1
              · rw [HLN.out]
                exact hPN.2.1
            case measure => simp [intOf]; omega
          ·
            have nc : ¬ ((91 : Int) = 62 ∧ k + 1 = T) := by omega
            have HE := Lib.hid (show R = P ++ [⟨K, (k : Int), (k : Int) + N⟩] ++ partX ((k + N : Nat) : Int) (s.drop (k + N)) true by
              rw [hinv.out, HWX.out (by simp), if_neg (by first | exact nc | omega | simp), List.append_assoc]
              simp)
            go_wp2_with fail
            refine HWD.out.mono ?_
            rintro e w3 ⟨rfl, k3⟩
            have hk3 := hkept.trans k3
            have ow3 := own_kept hown k3
            have hc3 := k3.cell hc
            have hb3 := World.block_lt_of_cell? _ _ hc3
            go_wp2_with (at_builtin; refine wpList_push w (by rfl) _ _ (by rfl) appT_dprt (by rfl) ow3 hk3 (by rfl) ?_ ?_; (exact ⟨by simp, rfl, rfl, by omega⟩); intro v5 w5 hown5 hk5 _ _)
            go_roundw
            case rel =>
              refine ⟨k + N, P ++ [⟨K, (k : Int), (k : Int) + N⟩], _, by omega, by omega, by go_num, rfl, by simpa [prtC] using hown5, hk5, by simp, by simp; omega, ?_⟩
              exact HE
            case measure => simp [intOf]; omega
        · have d91 : (x == 91) = false := by simpa using h91
          have hne91 : ¬ (x = 91 ∧ q = false) := fun h => h91 h.1
          have H91 := Lib.hid hne91
          clear h91 hne91
          by_cases h62 : x = 62
          · subst h62
            by_cases hk1 : k + 1 = T
            · have l1 : ((k : Int) + 1 == (T : Int)) = true := by simp; omega
              have l2 : (k : Int) + 1 = (T : Int) := by omega
              have HE := Lib.hid (show R = P ++ [⟨7, (k : Int), (k : Int) + N⟩] ++ partX ((k + N : Nat) : Int) (s.drop (k + N)) q by
                rw [hinv.out, HWX.out H91.out, if_pos (by exact ⟨rfl, hk1⟩), List.append_assoc]
                simp)
              go_wp2_with fail
              refine HWD.out.mono ?_
              rintro e w3 ⟨rfl, k3⟩
              have hk3 := hkept.trans k3
              have ow3 := own_kept hown k3
              have hc3 := k3.cell hc
              have hb3 := World.block_lt_of_cell? _ _ hc3
              go_wp2_with (at_builtin; refine wpList_push w (by rfl) _ _ (by rfl) appT_dprt (by rfl) ow3 hk3 (by rfl) ?_ ?_; (exact ⟨by simp, rfl, rfl, by omega⟩); intro v5 w5 hown5 hk5 _ _)
              go_roundw
              case rel =>
                refine ⟨k + N, P ++ [⟨7, (k : Int), (k : Int) + N⟩], _, by omega, by omega, by go_num, rfl, by simpa [prtC] using hown5, hk5, by simp, by simp; omega, ?_⟩
                exact HE
              case measure => simp [intOf]; omega
            · have l1 : ((k : Int) + 1 == (T : Int)) = false := by simp; omega
              have l2 : ¬ (k : Int) + 1 = (T : Int) := by omega
              have nc : ¬ ((62 : Int) = 62 ∧ k + 1 = T) := fun h => hk1 h.2
              have HE := Lib.hid (show R = P ++ [⟨K, (k : Int), (k : Int) + N⟩] ++ partX ((k + N : Nat) : Int) (s.drop (k + N)) q by
                rw [hinv.out, HWX.out H91.out, if_neg (by first | exact nc | omega | simp), List.append_assoc]
                simp)
              go_wp2_with fail
              refine HWD.out.mono ?_
              rintro e w3 ⟨rfl, k3⟩
              have hk3 := hkept.trans k3
              have ow3 := own_kept hown k3
              have hc3 := k3.cell hc
              have hb3 := World.block_lt_of_cell? _ _ hc3
              go_wp2_with (at_builtin; refine wpList_push w (by rfl) _ _ (by rfl) appT_dprt (by rfl) ow3 hk3 (by rfl) ?_ ?_; (exact ⟨by simp, rfl, rfl, by omega⟩); intro v5 w5 hown5 hk5 _ _)
              go_roundw
              case rel =>
                refine ⟨k + N, P ++ [⟨K, (k : Int), (k : Int) + N⟩], _, by omega, by omega, by go_num, rfl, by simpa [prtC] using hown5, hk5, by simp, by simp; omega, ?_⟩
                exact HE
              case measure => simp [intOf]; omega
          · have d62 : (x == 62) = false := by simpa using h62
            have nc : ¬ (x = 62 ∧ k + 1 = T) := fun h => h62 h.1
            have HE := Lib.hid (show R = P ++ [⟨K, (k : Int), (k : Int) + N⟩] ++ partX ((k + N : Nat) : Int) (s.drop (k + N)) q by
              rw [hinv.out, HWX.out H91.out, if_neg (by first | exact nc | omega | simp), List.append_assoc]
              simp)
            go_wp2_with fail
            refine HWD.out.mono ?_
            rintro e w3 ⟨rfl, k3⟩
            have hk3 := hkept.trans k3
            have ow3 := own_kept hown k3
            have hc3 := k3.cell hc
            have hb3 := World.block_lt_of_cell? _ _ hc3
            go_wp2_with (at_builtin; refine wpList_push w (by rfl) _ _ (by rfl) appT_dprt (by rfl) ow3 hk3 (by rfl) ?_ ?_; (exact ⟨by simp, rfl, rfl, by omega⟩); intro v5 w5 hown5 hk5 _ _)
            go_roundw
            case rel =>
              refine ⟨k + N, P ++ [⟨K, (k : Int), (k : Int) + N⟩], _, by omega, by omega, by go_num, rfl, by simpa [prtC] using hown5, hk5, by simp, by simp; omega, ?_⟩
              exact HE
            case measure => simp [intOf]; omega
end Go.Proofs.Ytnfcfpcpfnhcnaa
