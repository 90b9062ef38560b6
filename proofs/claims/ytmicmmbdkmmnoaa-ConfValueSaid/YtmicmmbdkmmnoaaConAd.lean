/- A value in other quotes, in plain words: what its references mean stays. No program in sight. -/
import Derived.Test.YtmicmmbdkmmnoaaRefsQ
namespace Go.Proofs.Ytmicmmbdkmmnoaa

def noQ (x : Int) : Prop := x ≠ 34 ∧ x ≠ 39
theorem hexB_noQ {x : Int} (h : hexB x = true) : noQ x := by
  unfold hexB digB at h
  simp at h
  unfold noQ
  omega
theorem digB_noQ {x : Int} (h : digB x = true) : noQ x := hexB_noQ (by unfold hexB; rw [h]; rfl)
theorem nameChar_noQ {x : Int} (h : nameChar x = true) : noQ x := by
  constructor
  · intro e
    subst e
    revert h
    decide
  · intro e
    subst e
    revert h
    decide
/-- What runs up to a semicolon. -/
theorem run_split {p : Int → Bool} {u : List Int} (h0 : 0 < runF p u) (h : u[runF p u]? = some 59) : ∃ d r, d ≠ [] ∧ d.all p = true ∧ u = d ++ 59 :: r := by
  unfold runF at h0 h
  have e := List.takeWhile_append_dropWhile (p := p) (l := u)
  obtain ⟨d, hd⟩ : ∃ d, u.takeWhile p = d := ⟨_, rfl⟩
  obtain ⟨r, hr⟩ : ∃ r, u.dropWhile p = r := ⟨_, rfl⟩
  have ha : d.all p = true := by
    rw [← hd]
    exact List.all_takeWhile
  rw [hd, hr] at e
  rw [hd] at h0 h
  rw [← e, List.getElem?_append_right (Nat.le_refl _), Nat.sub_self] at h
  cases r with
  | nil => cases h
  | cons y r =>
    have hy : y = 59 := by simpa using h
    subst hy
    refine ⟨d, r, ?_, ha, e.symm⟩
    intro e
    rw [e] at h0
    cases h0
theorem refT_hex {ds t : List Int} (h0 : ds ≠ []) (h : ds.all hexB = true) : refT (38 :: 35 :: 120 :: (ds ++ 59 :: t)) = (3, ds.length + 4) := by
  have hl : runF hexB (ds ++ 59 :: t) = ds.length := runF_stop h (by decide)
  have hp : 0 < ds.length := List.length_pos_iff.2 h0
  have h59 : (38 :: 35 :: 120 :: (ds ++ 59 :: t))[3 + ds.length]? = some 59 := by
    rw [show 3 + ds.length = ds.length + 1 + 1 + 1 by omega, List.getElem?_cons_succ, List.getElem?_cons_succ, List.getElem?_cons_succ, List.getElem?_append_right (Nat.le_refl _), Nat.sub_self]
    rfl
  have h1 : (38 :: 35 :: 120 :: (ds ++ 59 :: t))[1]? = some 35 := rfl
  have h2 : (38 :: 35 :: 120 :: (ds ++ 59 :: t))[2]? = some 120 := rfl
  unfold refT
  rw [if_pos h1, if_pos h2, List.drop_succ_cons, List.drop_succ_cons, List.drop_succ_cons, List.drop_zero, hl, if_pos ⟨hp, h59⟩]
theorem refT_dig {ds t : List Int} (h0 : ds ≠ []) (h : ds.all digB = true) : refT (38 :: 35 :: (ds ++ 59 :: t)) = (3, ds.length + 3) := by
  have hl : runF digB (ds ++ 59 :: t) = ds.length := runF_stop h (by decide)
  have hp : 0 < ds.length := List.length_pos_iff.2 h0
  have h59 : (38 :: 35 :: (ds ++ 59 :: t))[2 + ds.length]? = some 59 := by
    rw [show 2 + ds.length = ds.length + 1 + 1 by omega, List.getElem?_cons_succ, List.getElem?_cons_succ, List.getElem?_append_right (Nat.le_refl _), Nat.sub_self]
    rfl
  have hx : ¬ (38 :: 35 :: (ds ++ 59 :: t))[2]? = some 120 := by
    cases ds with
    | nil => exact absurd rfl h0
    | cons d ds =>
      intro e
      have hd : d = 120 := by simpa using e
      subst hd
      rw [List.all_cons, Bool.and_eq_true] at h
      have h1 := h.1
      revert h1
      decide
  have h1 : (38 :: 35 :: (ds ++ 59 :: t))[1]? = some 35 := rfl
  unfold refT
  rw [if_pos h1, if_neg hx, List.drop_succ_cons, List.drop_succ_cons, List.drop_zero, hl, if_pos ⟨hp, h59⟩]
theorem piece_num {a t : List Int} (h38 : a[0]? = some 38) (h : refT (a ++ t) = (3, a.length)) : pieceF (a ++ t) = if 0 ≤ numberF a then ⟨2, a.length, numberF a, ⟨#[]⟩⟩ else ⟨4, a.length, 0, ⟨#[]⟩⟩ := by
  have h0 : (a ++ t)[0]? = some 38 := by
    rw [List.getElem?_append_left (by
      cases a with
      | nil => cases h38
      | cons x a => simp)]
    exact h38
  unfold pieceF
  rw [if_pos h0, h]
  show (if (3 : Int) = 3 then _ else _) = _
  rw [if_pos rfl]
  show (if 0 ≤ numberF ((a ++ t).take a.length) then _ else _) = _
  rw [List.take_left]
/-- A piece that means something and begins with a &: whole, without quotes, and the same whatever stands behind. -/
def Apart (s m : List Int) : Prop := ∃ a u r, s = a ++ u ∧ m = [r] ∧ (∀ x ∈ a, noQ x) ∧ (pieceF s).len = a.length ∧ ∀ t, plainlyF (a ++ t) = (plainlyF t).map (r :: ·)
theorem apart_num {a u : List Int} (h38 : a[0]? = some 38) (ha : ∀ x ∈ a, noQ x) (h : ∀ t, refT (a ++ t) = (3, a.length)) {m : List Int} (hm : meanF (a ++ u) (pieceF (a ++ u)) = some m) : Apart (a ++ u) m := by
  have hne : ∀ t, a ++ t ≠ [] := by
    intro t e
    cases a with
    | nil => cases h38
    | cons x a => cases e
  have hp := piece_num h38 (h u)
  by_cases h0 : 0 ≤ numberF a
  · rw [if_pos h0] at hp
    rw [hp] at hm
    have hm2 : m = [numberF a] := by
      unfold meanF at hm
      simpa using hm.symm
    refine ⟨a, u, numberF a, rfl, hm2, ha, by rw [hp], fun t => ?_⟩
    have hpt := piece_num (t := t) h38 (h t)
    rw [if_pos h0] at hpt
    exact plainly_ahead (hne t) (by rw [hpt]) (by rw [hpt]; unfold meanF; simp)
  · rw [if_neg h0] at hp
    rw [hp] at hm
    unfold meanF at hm
    simp at hm
theorem apart_name {x : Int} {nm u : List Int} (h35 : x ≠ 35) (hx : nameStart x = true) (hn : (x :: nm).all nameChar = true) {m : List Int} (hm : meanF (38 :: ((x :: nm) ++ 59 :: u)) (pieceF (38 :: ((x :: nm) ++ 59 :: u))) = some m) :
    Apart (38 :: ((x :: nm) ++ 59 :: u)) m := by
  have hpt : ∀ t, pieceF ((38 :: ((x :: nm) ++ [59])) ++ t) = ⟨3, nm.length + 3, 0, nameB (x :: nm)⟩ := by
    intro t
    have e : (38 :: ((x :: nm) ++ [59])) ++ t = 38 :: ((x :: nm) ++ 59 :: t) := by simp
    rw [e]
    exact piece_name h35 hx hn
  have e : 38 :: ((x :: nm) ++ 59 :: u) = (38 :: ((x :: nm) ++ [59])) ++ u := by simp
  rw [e] at hm ⊢
  rw [hpt] at hm
  have hk : 0 ≤ knownF (nameB (x :: nm)) ∧ m = [knownF (nameB (x :: nm))] := by
    unfold meanF at hm
    rw [if_neg (show ¬ (3 : Int) = 1 by decide), if_neg (show ¬ (3 : Int) = 2 by decide)] at hm
    split at hm
    · rename_i h
      exact ⟨h.2, (Option.some.inj hm).symm⟩
    · cases hm
  refine ⟨38 :: ((x :: nm) ++ [59]), u, knownF (nameB (x :: nm)), rfl, hk.2, ?_, by rw [hpt]; simp, fun t => plainly_ahead (by simp) (by rw [hpt]; simp) (by
    rw [hpt]
    unfold meanF
    rw [if_neg (show ¬ (3 : Int) = 1 by decide), if_neg (show ¬ (3 : Int) = 2 by decide), if_pos ⟨rfl, hk.1⟩])⟩
  intro y hy
  rcases List.mem_cons.1 hy with rfl | hy
  · exact ⟨by decide, by decide⟩
  · rcases List.mem_append.1 hy with hy | hy
    · exact nameChar_noQ (List.all_eq_true.1 hn y hy)
    · rw [List.mem_singleton.1 hy]
      exact ⟨by decide, by decide⟩
theorem apart_of {s m : List Int} (h38 : s[0]? = some 38) (hm : meanF s (pieceF s) = some m) : Apart s m := by
  obtain ⟨s', rfl⟩ : ∃ s', s = 38 :: s' := by
    cases s with
    | nil => cases h38
    | cons x s =>
      have : x = 38 := by simpa using h38
      exact ⟨s, by rw [this]⟩
  have h11 : (refT (38 :: s')).1 = 3 ∨ (refT (38 :: s')).1 = 2 := by
    by_cases h3 : (refT (38 :: s')).1 = 3
    · exact .inl h3
    · by_cases h2 : (refT (38 :: s')).1 = 2
      · exact .inr h2
      · exfalso
        unfold pieceF at hm
        rw [if_pos h38, if_neg h3, if_neg h2] at hm
        unfold meanF at hm
        simp at hm
  by_cases h35 : (38 :: s')[1]? = some 35
  · obtain ⟨s2, rfl⟩ : ∃ s2, s' = 35 :: s2 := by
      cases s' with
      | nil => cases h35
      | cons x s =>
        have : x = 35 := by simpa using h35
        exact ⟨s, by rw [this]⟩
    by_cases h120 : (38 :: 35 :: s2)[2]? = some 120
    · obtain ⟨s3, rfl⟩ : ∃ s3, s2 = 120 :: s3 := by
        cases s2 with
        | nil => cases h120
        | cons x s =>
          have : x = 120 := by simpa using h120
          exact ⟨s, by rw [this]⟩
      have hc : 0 < runF hexB s3 ∧ s3[runF hexB s3]? = some 59 := by
        unfold refT at h11
        rw [if_pos h35, if_pos h120] at h11
        simp only [List.drop_succ_cons, List.drop_zero] at h11
        split at h11
        · rename_i h
          refine ⟨h.1, ?_⟩
          have := h.2
          rw [show 3 + runF hexB s3 = runF hexB s3 + 1 + 1 + 1 by omega, List.getElem?_cons_succ, List.getElem?_cons_succ, List.getElem?_cons_succ] at this
          exact this
        · simp at h11
      obtain ⟨d, r, hd0, hd, rfl⟩ := run_split hc.1 hc.2
      have e : ∀ t, 38 :: 35 :: 120 :: (d ++ 59 :: t) = (38 :: 35 :: 120 :: (d ++ [59])) ++ t := fun t => by simp
      rw [e] at hm ⊢
      refine apart_num rfl ?_ (fun t => ?_) hm
      · intro y hy
        simp only [List.mem_cons, List.mem_append, List.not_mem_nil, or_false] at hy
        rcases hy with rfl | rfl | rfl | hy | rfl
        · exact ⟨by decide, by decide⟩
        · exact ⟨by decide, by decide⟩
        · exact ⟨by decide, by decide⟩
        · exact hexB_noQ (List.all_eq_true.1 hd y hy)
        · exact ⟨by decide, by decide⟩
      · rw [← e, refT_hex hd0 hd]
        simp
    · have hc : 0 < runF digB s2 ∧ s2[runF digB s2]? = some 59 := by
        unfold refT at h11
        rw [if_pos h35, if_neg h120] at h11
        simp only [List.drop_succ_cons, List.drop_zero] at h11
        split at h11
        · rename_i h
          refine ⟨h.1, ?_⟩
          have := h.2
          rw [show 2 + runF digB s2 = runF digB s2 + 1 + 1 by omega, List.getElem?_cons_succ, List.getElem?_cons_succ] at this
          exact this
        · simp at h11
      obtain ⟨d, r, hd0, hd, rfl⟩ := run_split hc.1 hc.2
      have e : ∀ t, 38 :: 35 :: (d ++ 59 :: t) = (38 :: 35 :: (d ++ [59])) ++ t := fun t => by simp
      rw [e] at hm ⊢
      refine apart_num rfl ?_ (fun t => ?_) hm
      · intro y hy
        simp only [List.mem_cons, List.mem_append, List.not_mem_nil, or_false] at hy
        rcases hy with rfl | rfl | hy | rfl
        · exact ⟨by decide, by decide⟩
        · exact ⟨by decide, by decide⟩
        · exact digB_noQ (List.all_eq_true.1 hd y hy)
        · exact ⟨by decide, by decide⟩
      · rw [← e, refT_dig hd0 hd]
        simp
  · have hc : 0 < leadF s' ∧ s'[leadF s']? = some 59 := by
      unfold refT at h11
      rw [if_neg h35] at h11
      simp only [List.drop_succ_cons, List.drop_zero] at h11
      split at h11
      · rename_i h
        refine ⟨h.1, ?_⟩
        have := h.2
        rw [Nat.add_comm, List.getElem?_cons_succ] at this
        exact this
      · simp at h11
    have hst : (s'.take 1).any nameStart = true := by
      rcases Bool.eq_false_or_eq_true ((s'.take 1).any nameStart) with h | h
      · exact h
      · exfalso
        have h1 := hc.1
        unfold leadF at h1
        rw [if_neg (by rw [h]; decide)] at h1
        omega
    have hlead : leadF s' = runF nameChar s' := by
      unfold leadF
      rw [if_pos hst]
    rw [hlead] at hc
    obtain ⟨d, r, hd0, hd, rfl⟩ := run_split hc.1 hc.2
    cases d with
    | nil => exact absurd rfl hd0
    | cons x nm =>
      have hx : nameStart x = true := by simpa using hst
      exact apart_name (by simpa using h35) hx hd hm
/-- Each quote stands by its sign. -/
def replF (q : Int) (sign s : List Int) : List Int := s.flatMap fun x => if x = q then sign else [x]
theorem repl_id {q : Int} {sign : List Int} (hq : q = 34 ∨ q = 39) : ∀ {a : List Int}, (∀ x ∈ a, noQ x) → replF q sign a = a
  | [], _ => rfl
  | x :: a, h => by
    have h1 := h x (by simp)
    unfold replF
    rw [List.flatMap_cons, if_neg (by rcases hq with rfl | rfl; exact h1.1; exact h1.2)]
    have := repl_id (sign := sign) hq (a := a) (fun y hy => h y (by simp [hy]))
    unfold replF at this
    rw [this]
    rfl
theorem repl_app (q : Int) (sign a b : List Int) : replF q sign (a ++ b) = replF q sign a ++ replF q sign b := List.flatMap_append
theorem repl_means {q : Int} {sign : List Int} (hq : q = 34 ∨ q = 39) (hs : (sign, q) ∈ signs) : ∀ (f : Nat) (s P : List Int), s.length ≤ f → plainlyF s = some P → plainlyF (replF q sign s) = some P
  | 0, s, P, h, hP => by
    have : s = [] := List.eq_nil_of_length_eq_zero (by omega)
    subst this
    exact hP
  | f + 1, [], P, h, hP => hP
  | f + 1, x :: s, P, h, hP => by
    by_cases hx : x = 38
    · subst hx
      rw [plainlyF_cons (by simp)] at hP
      cases hm : meanF (38 :: s) (pieceF (38 :: s)) with
      | none => rw [hm] at hP; cases hP
      | some m =>
        rw [hm] at hP
        obtain ⟨a, u, r, e, rfl, ha, hl, ht⟩ := apart_of (s := 38 :: s) rfl hm
        have hpl := pieceF_len (s := 38 :: s) (by simp)
        rw [hl] at hP hpl
        rw [e] at hP ⊢
        rw [List.drop_left] at hP
        cases hu : plainlyF u with
        | none => rw [hu] at hP; cases hP
        | some Pu =>
          rw [hu] at hP
          have hlen : u.length ≤ f := by
            have h2 := congrArg List.length e
            rw [List.length_append, List.length_cons] at h2
            rw [List.length_cons] at h
            omega
          rw [repl_app, repl_id hq ha, ht, repl_means hq hs f u Pu hlen hu]
          exact hP
    · rw [plainly_char hx] at hP
      cases hu : plainlyF s with
      | none => rw [hu] at hP; cases hP
      | some Pu =>
        rw [hu] at hP
        have ih := repl_means hq hs f s Pu (by rw [List.length_cons] at h; omega) hu
        have e : replF q sign (x :: s) = (if x = q then sign else [x]) ++ replF q sign s := List.flatMap_cons
        rw [e]
        by_cases hxq : x = q
        · rw [if_pos hxq, signs_mean hs, ih]
          rw [← hP, hxq]
        · rw [if_neg hxq]
          show plainlyF (x :: replF q sign s) = _
          rw [plainly_char hx, ih]
          exact hP
end Go.Proofs.Ytmicmmbdkmmnoaa
