/- The law RefsApart, walked. -/
import Derived.Test.YtennpgdoepdboaaRefsA
namespace Go.Proofs.Ytennpgdoepdboaa
open Go.RowKit
attribute [local go_sem ↓] Go.wp_at_zero Go.wp_at_succ

theorem sign_len (l : List Int) (i : Nat) (q : Int) : (outF l i q).length ≤ 6 := by
  unfold outF
  split
  · simp
  · rcases sign_in l i q with ⟨h, _⟩ | h
    · rw [h]
      simp
    · generalize signF l i q = sg at h
      simp only [signs, List.mem_cons, List.not_mem_nil, or_false, Prod.mk.injEq] at h
      rcases h with ⟨rfl, _⟩ | ⟨rfl, _⟩ | ⟨rfl, _⟩ | ⟨rfl, _⟩ | ⟨rfl, _⟩ | ⟨rfl, _⟩ | ⟨rfl, _⟩ | ⟨rfl, _⟩ <;> simp
theorem put_len (l : List Int) (q : Int) : ∀ (f i : Nat), l.length ≤ f + i → (putF l q i).length ≤ 6 * f
  | 0, i, h => by rw [putF_end (by omega)]; simp
  | f + 1, i, h => by
    by_cases hi : i < l.length
    · have := put_len l q f (i + 1) (by omega)
      have := sign_len l i q
      rw [putF_step hi, List.length_append]
      omega
    · rw [putF_end hi]
      simp
theorem pos_kinds : ∀ (ps : List Pc) (a : Nat), (∀ p ∈ ps, p.kind ≠ 4) → ∀ x ∈ posL a ps, x.1.kind ≠ 4
  | [], _, _, x, hx => by cases hx
  | p :: ps, a, h, x, hx => by
    rw [posL] at hx
    rcases List.mem_cons.1 hx with rfl | hx
    · exact h p (by simp)
    · exact pos_kinds ps _ (fun y hy => h y (by simp [hy])) x hx
theorem pos_len : ∀ (ps : List Pc) (a : Nat), (posL a ps).length = ps.length
  | [], _ => rfl
  | p :: ps, a => by rw [posL, List.length_cons, List.length_cons, pos_len]
theorem pcsG_len : ∀ (f : Nat) (s : List Int), (pcsG f s).length ≤ f
  | 0, _ => Nat.le_refl _
  | f + 1, s => by
    rw [pcsG]
    split
    · simp
    · simpa using pcsG_len f _
theorem put_pieces (l : List Int) (q : Int) : ∀ x ∈ pcsX (putF l q 0) 0, x.1.kind ≠ 4 := by
  have hm := put_means l q l.length 0 (by omega) (by omega)
  unfold pcsX
  rw [List.drop_zero]
  exact pos_kinds _ _ (plainly_kinds _ _ _ (Nat.le_refl _) hm)
set_option maxHeartbeats 8000000 in
theorem lawApart_any (A : Option Addr) (n c : Nat) (l : List Int) (bo : Bool) (w : World) (h : Sl w 1 A n c (l.map (Value.int .i32))) :
    Calls Try.prog 5 #[.slice A n c, .bool bo] w fun e w' => e = .returned (.bool true) ∧ Kept w w' := by
  obtain ⟨q, hq, hqb⟩ : ∃ q : Int, (q = 34 ∨ q = 39) ∧ q = if bo = true then 39 else 34 := by
    cases bo
    · exact ⟨34, .inl rfl, rfl⟩
    · exact ⟨39, .inr rfl, rfl⟩
  have hmain : ∀ (L : List Int) (N : Nat), N ≤ 100 → L.length = N → (∀ x ∈ putF L q 0, x ≠ 60 ∧ x ≠ q ∧ x ≠ 9 ∧ x ≠ 10 ∧ x ≠ 13) ∧ (putF L q 0).length ≤ 600 ∧ (pcsX (putF L q 0) 0).length ≤ 600 ∧ (∀ x ∈ pcsX (putF L q 0) 0, x.1.kind ≠ 4) := by
    intro L N hN hL
    have h1 := put_len L q L.length 0 (by omega)
    refine ⟨put_apart L q hq L.length 0 (by omega), by omega, ?_, put_pieces L q⟩
    unfold pcsX
    rw [pos_len, List.drop_zero]
    have := pcsG_len (putF L q 0).length (putF L q 0)
    unfold pcsF
    omega
  obtain ⟨F, hF⟩ : ∃ F : List Int → List Int, ∀ L, putF L q 0 = F L := ⟨fun L => putF L q 0, fun _ => rfl⟩
  simp only [hF] at hmain
  cases bo
  all_goals
    simp only [if_true, if_false, Bool.false_eq_true] at hqb
    subst hqb
    go_enter Try.func5, Try.ntmps5
    go_wp2_with fail
    refine (few_any _ _ _ _ _ h).mono ?_
    rintro e w1 ⟨C1, rfl, h1, k1⟩
    have hN : min n 100 ≤ 100 := Nat.min_le_right _ _
    obtain ⟨N, hNe⟩ : ∃ N, min n 100 = N := ⟨_, rfl⟩
    rw [hNe] at h1 hN ⊢
    obtain ⟨L, hLe⟩ : ∃ L, l.take 100 = L := ⟨_, rfl⟩
    rw [hLe] at h1
    clear hNe hLe
    obtain ⟨m1, m2, m3, m4⟩ := hmain L N hN h1.llen1
    have HM1 := Lib.hid m1
    have HM4 := Lib.hid m4
    clear m1 m4 hmain
    go_wp2_with fail
    refine (put_any _ _ _ L _ _ h1 (by omega)).mono ?_
    rintro e w2 ⟨OA, OC, rfl, hO, k2⟩
    have hk2 := k1.trans k2
    rw [hF] at hO ⊢
    obtain ⟨O, hOe⟩ : ∃ O, F L = O := ⟨_, rfl⟩
    rw [hOe] at hO m2 m3 HM1 HM4 ⊢
    clear hOe h1 k1 k2 hF
    obtain ⟨M, hM⟩ : ∃ M, O.length = M := ⟨_, rfl⟩
    rw [hM] at hO m2 ⊢
    have hcap := hO.cap
    have hmax := hO.max
    clear hM
    go_wp2_with fail
    go_loopw [19] (fun u wr => ∃ k : Nat, k ≤ M ∧ u = .int .i64 k ∧ Kept w2 wr) (fun u _ => M - (intOf u).toNat)
    case atStart => exact ⟨0, Nat.zero_le _, rfl, Kept.refl _⟩
    case round =>
      obtain ⟨k, hkM, rfl, hk⟩ := hrel
      by_cases hp : k < M
      · obtain ⟨b, o, x, rfl, hx, hcx, hb⟩ := (hO.kept hk).oneb (k := k) hp
        obtain ⟨x1, x2, x3, x4, x5⟩ := HM1.out x (List.mem_of_getElem? hx)
        have d1 : (x == 60) = false := by simpa using x1
        have d2 : (x == 34) = false ∨ (x == 39) = false := by first | (left; simpa using x2) | (right; simpa using x2)
        have d3 : (x == 9) = false := by simpa using x3
        have d4 : (x == 10) = false := by simpa using x4
        have d5 : (x == 13) = false := by simpa using x5
        have l0 : (0 : Int) ≤ k := by omega
        have l1 : (k : Int) < M := by omega
        first
          | (have d2' : (x == 34) = false := by simpa using x2)
          | (have d2' : (x == 39) = false := by simpa using x2)
        clear hx d2
        go_wp2_with fail
        go_roundw
        case rel => exact ⟨k + 1, hp, by simp, hk⟩
        case measure =>
          simp [intOf]
          omega
      · have d1 : decide ((k : Int) < M) = false := by simp; omega
        have hK3 := hk2.trans hk
        have hO3 := hO.kept hk
        clear hk hO hcap hmax
        go_wp2_with fail
        refine (pieces_any _ _ _ O _ hO3 (by omega)).mono ?_
        rintro e w4 ⟨RA, RC, rfl, hR, k4⟩
        have hK4 := hK3.trans k4
        obtain ⟨P, hPe⟩ : ∃ P, pcsX O 0 = P := ⟨_, rfl⟩
        rw [hPe] at hR m3 HM4 ⊢
        clear hPe k4 hO3 hK3
        obtain ⟨Q, hQ⟩ : ∃ Q, P.length = Q := ⟨_, rfl⟩
        rw [hQ] at hR m3 ⊢
        clear hQ
        have hcap := hR.cap
        have hmax := hR.max
        go_wp2_with fail
        go_loopw [46] (fun u wr => ∃ k : Nat, k ≤ Q ∧ u = .int .i64 k ∧ Kept w4 wr) (fun u _ => Q - (intOf u).toNat)
        case atStart => exact ⟨0, Nat.zero_le _, rfl, Kept.refl _⟩
        case round =>
          obtain ⟨j, hjQ, rfl, hj⟩ := hrel
          by_cases hp2 : j < Q
          · obtain ⟨b, o, p, rfl, hpx, c0, c1, c2, c3, c4, hb⟩ := elem_pc (hR.kept hj) hp2
            have dk : (p.1.kind == 4) = false := by simpa using HM4.out p (List.mem_of_getElem? hpx)
            have l0 : (0 : Int) ≤ j := by omega
            have l1 : (j : Int) < Q := by omega
            clear hpx
            go_wp2_with fail
            go_roundw
            case rel => exact ⟨j + 1, hp2, by simp, hj.alloc _⟩
            case measure =>
              simp [intOf]
              omega
          · have d1 : decide ((j : Int) < Q) = false := by simp; omega
            go_wp2_with fail
            refine (awake_any _).mono ?_
            rintro e w8 ⟨rfl, k8⟩
            go_wp2_with fail
            go_ret
            exact ⟨rfl, (hK4.trans hj).trans k8⟩
end Go.Proofs.Ytennpgdoepdboaa
