/- Layer 14: the document's Plainly: walked. -/
import Derived.Test.YtennpgdoepdboaaRefsR
import Derived.Test.YtennpgdoepdboaaRefsB
namespace Go.Proofs.Ytennpgdoepdboaa
open Go.RowKit
attribute [local go_sem ↓] Go.wp_at_zero Go.wp_at_succ

theorem mean_len {s : List Int} {p : Pc} {a : List Int} (h : meanF s p = some a) (h1 : 1 ≤ p.len) : a.length ≤ p.len := by
  unfold meanF at h
  split at h
  · injection h with h
    rw [← h, List.length_take]
    omega
  · split at h
    · injection h with h
      rw [← h]
      exact h1
    · split at h
      · injection h with h
        rw [← h]
        exact h1
      · cases h
theorem plain_len : ∀ (f : Nat) (s P : List Int), s.length ≤ f → plainlyF s = some P → P.length ≤ s.length
  | 0, s, P, h, hP => by
    have : s = [] := List.eq_nil_of_length_eq_zero (by omega)
    subst this
    injection hP with hP
    rw [← hP]
    simp
  | f + 1, s, P, h, hP => by
    by_cases hs : s = []
    · subst hs
      injection hP with hP
      rw [← hP]
      simp
    · rw [plainlyF_cons hs] at hP
      have hl := pieceF_len hs
      have hl2 := pieceF_le hs
      cases hm : meanF s (pieceF s) with
      | none => rw [hm] at hP; cases hP
      | some a =>
        cases hq : plainlyF (s.drop (pieceF s).len) with
        | none => rw [hm, hq] at hP; cases hP
        | some b =>
          rw [hm, hq] at hP
          injection hP with hP
          have h1 := mean_len hm hl
          have h2 := plain_len f _ b (by rw [List.length_drop]; omega) hq
          rw [List.length_drop] at h2
          rw [← hP, List.length_append]
          omega
set_option maxHeartbeats 8000000 in
theorem rplainly_any (A : Option Addr) (n c : Nat) (l : List Int) (w : World) (h : Sl w 1 A n c (l.map (Value.int .i32))) (hn : n ≤ 10000) (hr : Rn l) :
    Calls Try.prog 24 #[.slice A n c] w fun e w' => plainC (plainlyF l) w' e ∧ Kept w w' := by
  have hcap := h.cap
  have hmax := h.max
  have HL := Lib.hid h.llen1
  have hpl := plainP_eq l l.length 0 (by omega)
  rw [List.drop_zero] at hpl
  rw [hpl]
  have hlen := pcsX_len l
  have hins := pcsX_in l l.length 0 (by omega)
  rw [HL.out] at hlen hins
  go_enter Try.func24, Try.ntmps24
  go_wp2_with fail
  refine (rpieces_any _ _ _ l _ h (by omega) hr).mono ?_
  rintro e w1 ⟨PA, PC, rfl, hP, k1⟩
  obtain ⟨P, hPe⟩ : ∃ P, pcsX l 0 = P := ⟨_, rfl⟩
  rw [hPe] at hP hlen hins ⊢
  have HPE := Lib.hid hPe
  clear hPe hpl
  obtain ⟨Q, hQ⟩ : ∃ Q, P.length = Q := ⟨_, rfl⟩
  rw [hQ] at hP hlen ⊢
  have HQ := Lib.hid hQ
  have HI := Lib.hid hins
  clear hQ hins
  have hPcap := hP.cap
  have hPmax := hP.max
  have hs1 := k1.size
  go_wp2_with fail
  go_loopw [4, 10] (fun v u wr => ∃ (k : Nat) (D : List Int) (VA : Option Addr) (VC : Nat), k ≤ Q ∧ u = .int .i64 k ∧ v = .slice VA D.length VC ∧ D.length ≤ k * 10000 ∧ wr.ownsRow w1.heap.size 21 1 (.slice VA D.length VC) D.length (D.map (Value.int .i32)) ∧ Kept w1 wr ∧ Hid (plainP l P = (plainP l (P.drop k)).map (D ++ ·)))
    (fun _ u _ => Q - (intOf u).toNat)
  case atStart => exact ⟨0, [], none, 0, Nat.zero_le _, rfl, rfl, Nat.zero_le _, World.ownsRow_nil _ _ _ _, Kept.refl _, by unfold Hid; rw [List.drop_zero]; cases plainP l P <;> rfl⟩
  case round =>
    obtain ⟨k, D, VA, VC, hkQ, rfl, rfl, hD, hown, hk, hinv⟩ := hrel
    by_cases hp : k < Q
    · obtain ⟨b, o, p, rfl, hpx, c0, c1, c2, c3, c4, hb⟩ := elem_pc (hP.kept hk) hp
      have hdr := drop_get hpx
      have hpin := HI.out p (List.mem_of_getElem? hpx)
      have l0 : (0 : Int) ≤ k := by omega
      have l1 : (k : Int) < Q := by omega
      obtain ⟨⟨pk, pl, pr, pn⟩, pa⟩ := p
      dsimp only at c0 c1 c2 c3 c4 hpin
      have hkn := fun w' => rknown_any pn w'
      obtain ⟨KF, hKF⟩ : ∃ z, knownF pn = z := ⟨_, rfl⟩
      rw [hKF] at hkn
      have HKN := Lib.hid hkn
      clear hkn
      have hsz := hk.size
      have hT0 := Blk.new wr #[.int .i64 pk, .int .i64 pa, .int .i64 ((pa : Int) + pl), .int .i32 pr, .string pn] 29
      have hown1 := hown.alloc (.cells #[.int .i64 pk, .int .i64 pa, .int .i64 ((pa : Int) + pl), .int .i32 pr, .string pn] 29)
      have hk1 := hk.alloc (.cells #[.int .i64 pk, .int .i64 pa, .int .i64 ((pa : Int) + pl), .int .i32 pr, .string pn] 29)
      by_cases e1 : pk = 1
      · subst e1
        have hmean : meanF (l.drop pa) ⟨1, pl, pr, pn⟩ = some ((l.drop pa).take pl) := rfl
        have hst : plainP l (P.drop k) = (plainP l (P.drop (k + 1))).map ((l.drop pa).take pl ++ ·) := by
          rw [hdr]
          exact plainP_cons hmean
        have HST := Lib.hid hst
        have hlt : ((l.drop pa).take pl).length = pl := by
          rw [List.length_take, List.length_drop, HL.out]
          omega
        have hcut := fun wx => run_cut_lh appT_runes A n c pa (pa + pl) (by omega) (by omega) wx
        rw [Int.natCast_add] at hcut
        have hcs := (h.kept (k1.trans hk1)).cut1 (i := pa) (m := pa + pl) (by omega) (by omega)
        rw [show pa + pl - pa = pl by omega] at hcut hcs
        obtain ⟨A2, hA2⟩ : ∃ z, cutA A c pa 1 = z := ⟨_, rfl⟩
        rw [hA2] at hcut hcs
        have q0 : (0 : Int) ≤ pa := by omega
        clear hA2 hst hdr hpx hmean hKF
        go_wp2_with (at_builtin; refine wpList_app (by rfl) _ _ (by rfl) appT_runes (by rfl) hown1 (by rfl) hcs ?_ ?_ ?_ ?_; (exact ints_one _ _); (omega); (have := hk1.size; exact this); (intro v' w' hown' hgr hob; obtain ⟨VA', VC', rfl, hVs⟩ := own_sl hown'))
        have hk3 : Kept w1 w' := hk1.grown hgr (fun k e => by have := hown1.lt k e; omega)
        clear hown hown1 hgr hob hVs
        go_roundw
        case rel => exact ⟨k + 1, D ++ (l.drop pa).take pl, VA', VC', hp, by simp, by rw [List.length_append, hlt], by rw [List.length_append, hlt]; omega, by rw [List.length_append, hlt, List.map_append]; exact hown', hk3, by unfold Hid; rw [hinv.out, HST.out, Option.map_map]; congr 1; funext z; simp⟩
        case measure =>
          simp [intOf]
          omega
      by_cases e2 : pk = 2
      · subst e2
        have hmean : meanF (l.drop pa) ⟨2, pl, pr, pn⟩ = some [pr] := rfl
        have hst : plainP l (P.drop k) = (plainP l (P.drop (k + 1))).map ([pr] ++ ·) := by
          rw [hdr]
          exact plainP_cons hmean
        have HST := Lib.hid hst
        clear hst hdr hpx hmean hKF e1
        go_wp2_with (at_builtin; refine wpList_app (by rfl) _ _ (by rfl) appT_runes (by rfl) (hown1.alloc _) (by rfl) (Sl.litg (by simp) ?_ (by omega)) ?_ ?_ ?_ ?_; (exact rfl); (exact rfl); (omega); (simp; omega); (intro v' w' hown' hgr hob; obtain ⟨VA', VC', rfl, hVs⟩ := own_sl hown'))
        have hk3 : Kept w1 w' := (hk1.alloc _).grown hgr (fun k e => by have := hown1.lt k e; omega)
        clear hown hown1 hgr hob hVs
        go_roundw
        case rel =>
          have hl1 : (D ++ [pr]).length = D.length + 1 := by simp
          exact ⟨k + 1, D ++ [pr], VA', VC', hp, by simp, by rw [hl1], by rw [hl1]; omega, by rw [hl1, List.map_append]; exact hown', hk3, by unfold Hid; rw [hinv.out, HST.out, Option.map_map]; congr 1; funext z; simp⟩
        case measure =>
          simp [intOf]
          omega
      have d1k : (pk == 1) = false := by simpa using e1
      have d2k : (pk == 2) = false := by simpa using e2
      by_cases e3 : pk = 3
      · subst e3
        by_cases hKF0 : 0 ≤ KF
        · have hmean : meanF (l.drop pa) ⟨3, pl, pr, pn⟩ = some [KF] := by
            unfold meanF
            rw [if_neg (show ¬ (3 : Int) = 1 by decide), if_neg (show ¬ (3 : Int) = 2 by decide), if_pos ⟨rfl, by rw [hKF]; exact hKF0⟩, hKF]
          have hst : plainP l (P.drop k) = (plainP l (P.drop (k + 1))).map ([KF] ++ ·) := by
            rw [hdr]
            exact plainP_cons hmean
          have HST := Lib.hid hst
          have dk : decide (KF < 0) = false := by simp; omega
          clear hst hdr hpx hmean hKF e1 e2
          go_wp2_with fail
          refine (HKN.out _).mono ?_
          rintro e wk ⟨rfl, kk⟩
          have hTk := hT0.kept kk
          have fk := hTk.cell
          go_wp2_with fail
          refine (HKN.out _).mono ?_
          rintro e wm ⟨rfl, km⟩
          have hk2 := (hk1.trans kk).trans km
          have hown2 := own_kept (own_kept hown1 kk) km
          have hs2 := hk2.size
          clear hown1 kk km hTk fk hown
          go_wp2_with (at_builtin; refine wpList_app (by rfl) _ _ (by rfl) appT_runes (by rfl) (hown2.alloc _) (by rfl) (Sl.litg (by simp) ?_ (by omega)) ?_ ?_ ?_ ?_; (exact rfl); (exact rfl); (omega); (simp; omega); (intro v' w' hown' hgr hob; obtain ⟨VA', VC', rfl, hVs⟩ := own_sl hown'))
          have hk3 : Kept w1 w' := (hk2.alloc _).grown hgr (fun k e => by have := hown2.lt k e; omega)
          clear hown2 hgr hob hVs
          go_roundw
          case rel =>
            have hl1 : (D ++ [KF]).length = D.length + 1 := by simp
            exact ⟨k + 1, D ++ [KF], VA', VC', hp, by simp, by rw [hl1], by rw [hl1]; omega, by rw [hl1, List.map_append]; exact hown', hk3, by unfold Hid; rw [hinv.out, HST.out, Option.map_map]; congr 1; funext z; simp⟩
          case measure =>
            simp [intOf]
            omega
        · have hmean : meanF (l.drop pa) ⟨3, pl, pr, pn⟩ = none := by
            unfold meanF
            rw [if_neg (show ¬ (3 : Int) = 1 by decide), if_neg (show ¬ (3 : Int) = 2 by decide), if_neg (fun hc => hKF0 (by rw [← hKF]; exact hc.2))]
          have hst : plainP l P = none := by
            rw [hinv.out, hdr, plainP_none hmean]
            rfl
          have HST := Lib.hid hst
          have dk : decide (KF < 0) = true := by simp; omega
          clear hst hdr hpx hmean hKF e1 e2
          go_wp2_with fail
          refine (HKN.out _).mono ?_
          rintro e wk ⟨rfl, kk⟩
          go_wp2_with fail
          refine bodyPost_ret (v := .tuple #[.slice none 0 0, .bool false]) ?_ rfl ⟨?_, (k1.trans hk1).trans kk⟩
          · simp [results, Try.results24, go_sem]
          · rw [HPE.out, HST.out]
            rfl
      · have hmean : meanF (l.drop pa) ⟨pk, pl, pr, pn⟩ = none := by
          unfold meanF
          rw [if_neg e1, if_neg e2, if_neg (fun hc => e3 hc.1)]
        have hst : plainP l P = none := by
          rw [hinv.out, hdr, plainP_none hmean]
          rfl
        have HST := Lib.hid hst
        have d3k : (pk == 3) = false := by simpa using e3
        clear hst hdr hpx hmean hKF e1 e2 e3
        go_wp2_with fail
        refine bodyPost_ret (v := .tuple #[.slice none 0 0, .bool false]) ?_ rfl ⟨?_, k1.trans hk1⟩
        · simp [results, Try.results24, go_sem]
        · rw [HPE.out, HST.out]
          rfl
    · have d1 : decide ((k : Int) < Q) = false := by simp; omega
      obtain ⟨A2, c2, hVe, hV⟩ := own_sl hown
      injection hVe with e1 e2 e3
      subst e1 e3
      have hfin : plainP l P = some D := by
        rw [hinv.out, List.drop_eq_nil_of_le (by have := HQ.out; omega)]
        simp [plainP]
      have HF := Lib.hid hfin
      clear hfin
      go_wp2_with fail
      refine bodyPost_ret (v := .tuple #[.slice VA D.length VC, .bool true]) ?_ rfl ⟨?_, k1.trans hk⟩
      · simp [results, Try.results24, go_sem]
      · rw [HPE.out, HF.out]
        exact ⟨VA, VC, rfl, hV⟩
end Go.Proofs.Ytennpgdoepdboaa
