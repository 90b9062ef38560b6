/- Layer 14, the plain laws: what Put makes means what was put, and has none of what must not stand. No program in sight. -/
import Derived.Test.YtmicmmbdkmmnoaaRefsP
namespace Go.Proofs.Ytmicmmbdkmmnoaa

theorem plainG_fuel : ∀ (f f' : Nat) (s : List Int), s.length ≤ f → s.length ≤ f' → plainG f s = plainG f' s
  | 0, 0, _, _, _ => rfl
  | 0, f' + 1, s, h, _ => by
    have : s = [] := List.eq_nil_of_length_eq_zero (by omega)
    rw [plainG, plainG, if_pos this]
  | f + 1, 0, s, _, h => by
    have : s = [] := List.eq_nil_of_length_eq_zero (by omega)
    rw [plainG, plainG, if_pos this]
  | f + 1, f' + 1, s, h, h' => by
    rw [plainG, plainG]
    split
    · rfl
    · rename_i hs
      have := pieceF_len hs
      rw [plainG_fuel f f' _ (by rw [List.length_drop]; omega) (by rw [List.length_drop]; omega)]
theorem plainlyF_cons {s : List Int} (h : s ≠ []) : plainlyF s = match meanF s (pieceF s), plainlyF (s.drop (pieceF s).len) with
    | some a, some b => some (a ++ b)
    | _, _ => none := by
  have hl := pieceF_len h
  have hp : 0 < s.length := List.length_pos_iff.2 h
  unfold plainlyF
  obtain ⟨m, hm⟩ : ∃ m, s.length = m + 1 := ⟨s.length - 1, by omega⟩
  rw [hm, plainG, if_neg h, plainG_fuel m _ _ (by rw [List.length_drop]; omega) (Nat.le_refl _)]
  generalize meanF s (pieceF s) = a
  generalize plainG _ (s.drop _) = b
  cases a <;> cases b <;> rfl
/-- A piece of one meaning ahead of the rest. -/
theorem plainly_ahead {s t : List Int} {r : Int} (hs : s ++ t ≠ []) (hp : (pieceF (s ++ t)).len = s.length) (hm : meanF (s ++ t) (pieceF (s ++ t)) = some [r]) : plainlyF (s ++ t) = (plainlyF t).map (r :: ·) := by
  rw [plainlyF_cons hs, hm, hp, List.drop_left]
  cases plainlyF t <;> rfl
theorem runF_amp {s : List Int} : runF (fun x => x != 38) (38 :: s) = 0 := rfl
theorem runF_cons {p : Int → Bool} {x : Int} {s : List Int} (h : p x = true) : runF p (x :: s) = runF p s + 1 := by
  unfold runF
  rw [List.takeWhile_cons, if_pos h, List.length_cons]
theorem pieceF_plain {x : Int} {s : List Int} (h : x ≠ 38) : pieceF (x :: s) = ⟨1, runF (fun x => x != 38) s + 1, 0, ⟨#[]⟩⟩ := by
  unfold pieceF
  rw [if_neg (by simpa using h), runF_cons (by simpa using h)]
theorem plainly_char {x : Int} {s : List Int} (h : x ≠ 38) : plainlyF (x :: s) = (plainlyF s).map (x :: ·) := by
  have hm : ∀ (y : Int) (t : List Int), y ≠ 38 → meanF (y :: t) (pieceF (y :: t)) = some (y :: t.take (runF (fun x => x != 38) t)) := by
    intro y t hy
    rw [pieceF_plain hy]
    rfl
  rw [plainlyF_cons (by simp), hm x s h, pieceF_plain h]
  dsimp only
  rw [List.drop_succ_cons]
  cases s with
  | nil => rfl
  | cons y t =>
    by_cases hy : y = 38
    · subst hy
      rw [runF_amp, List.drop_zero]
      cases plainlyF (38 :: t) <;> rfl
    · rw [runF_cons (p := fun x => x != 38) (by simpa using hy), plainlyF_cons (s := y :: t) (by simp), hm y t hy, pieceF_plain hy]
      dsimp only
      rw [List.drop_succ_cons]
      cases plainlyF (t.drop (runF (fun x => x != 38) t)) <;> rfl
theorem runF_stop {p : Int → Bool} {a : List Int} {x : Int} {s : List Int} (ha : a.all p = true) (hx : p x = false) : runF p (a ++ x :: s) = a.length := by
  induction a with
  | nil =>
    unfold runF
    rw [List.nil_append, List.takeWhile_cons, if_neg (by simp [hx])]
    first | done | rfl
  | cons y a ih =>
    rw [List.all_cons, Bool.and_eq_true] at ha
    rw [List.cons_append, runF_cons ha.1, ih ha.2, List.length_cons]
theorem piece_name {x : Int} {nm s : List Int} (h35 : x ≠ 35) (hx : nameStart x = true) (hn : (x :: nm).all nameChar = true) : pieceF (38 :: ((x :: nm) ++ 59 :: s)) = ⟨3, nm.length + 3, 0, nameB (x :: nm)⟩ := by
  have hl : leadF ((x :: nm) ++ 59 :: s) = nm.length + 1 := by
    unfold leadF
    rw [if_pos (by simp [hx]), runF_stop hn (by decide)]
    rfl
  have hr : refT (38 :: ((x :: nm) ++ 59 :: s)) = (2, nm.length + 3) := by
    unfold refT
    have h59 : (38 :: ((x :: nm) ++ 59 :: s))[1 + (nm.length + 1)]? = some 59 := by
      rw [show 1 + (nm.length + 1) = (nm.length + 1) + 1 by omega, List.getElem?_cons_succ, List.getElem?_append_right (by simp)]
      simp
    rw [if_neg (by simpa using h35), List.drop_succ_cons, List.drop_zero, hl, if_pos ⟨by omega, h59⟩]
  have h0 : (38 :: ((x :: nm) ++ 59 :: s))[0]? = some 38 := rfl
  unfold pieceF
  rw [if_pos h0, hr]
  simp
theorem piece_hex {d : Int} {s : List Int} (hd : hexB d = true) (hn : 0 ≤ numberF [38, 35, 120, d, 59]) : pieceF (38 :: 35 :: 120 :: d :: 59 :: s) = ⟨2, 5, numberF [38, 35, 120, d, 59], ⟨#[]⟩⟩ := by
  have hl : runF hexB (d :: 59 :: s) = 1 := runF_stop (a := [d]) (by simp [hd]) (by decide)
  have hr : refT (38 :: 35 :: 120 :: d :: 59 :: s) = (3, 5) := by
    have h1 : (38 :: 35 :: 120 :: d :: 59 :: s)[1]? = some 35 := rfl
    have h2 : (38 :: 35 :: 120 :: d :: 59 :: s)[2]? = some 120 := rfl
    have h4 : (38 :: 35 :: 120 :: d :: 59 :: s)[3 + 1]? = some 59 := rfl
    unfold refT
    rw [if_pos h1, if_pos h2, List.drop_succ_cons, List.drop_succ_cons, List.drop_succ_cons, List.drop_zero, hl, if_pos ⟨by omega, h4⟩]
  have h0 : (38 :: 35 :: 120 :: d :: 59 :: s)[0]? = some 38 := rfl
  unfold pieceF
  rw [if_pos h0, hr]
  show (if (3 : Int) = 3 then _ else _) = _
  rw [if_pos rfl]
  show (if 0 ≤ numberF [38, 35, 120, d, 59] then _ else _) = _
  rw [if_pos hn]
  rfl
def signs : List (List Int × Int) := [([38, 97, 109, 112, 59], 38), ([38, 108, 116, 59], 60), ([38, 103, 116, 59], 62), ([38, 35, 120, 68, 59], 13), ([38, 113, 117, 111, 116, 59], 34), ([38, 97, 112, 111, 115, 59], 39), ([38, 35, 120, 57, 59], 9), ([38, 35, 120, 65, 59], 10)]
theorem signs_mean {p : List Int × Int} (hp : p ∈ signs) (s : List Int) : plainlyF (p.1 ++ s) = (plainlyF s).map (p.2 :: ·) := by
  have hN : ∀ (x : Int) (nm : List Int) (r : Int), x ≠ 35 → nameStart x = true → (x :: nm).all nameChar = true → 0 ≤ knownF (nameB (x :: nm)) → knownF (nameB (x :: nm)) = r → plainlyF (38 :: ((x :: nm) ++ 59 :: s)) = (plainlyF s).map (r :: ·) := by
    intro x nm r h35 hx hn h0 hr
    have hpc := piece_name (s := s) h35 hx hn
    have e : 38 :: ((x :: nm) ++ 59 :: s) = (38 :: ((x :: nm) ++ [59])) ++ s := by simp
    rw [e] at hpc ⊢
    refine plainly_ahead (by simp) ?_ ?_
    · rw [hpc]
      simp
    · rw [hpc]
      unfold meanF
      simp [hr]
      omega
  have hX : ∀ (d : Int), hexB d = true → 0 ≤ numberF [38, 35, 120, d, 59] → plainlyF (38 :: 35 :: 120 :: d :: 59 :: s) = (plainlyF s).map (numberF [38, 35, 120, d, 59] :: ·) := by
    intro d hd hn
    have hpc := piece_hex (s := s) hd hn
    exact plainly_ahead (s := [38, 35, 120, d, 59]) (by simp) (by rw [show [38, 35, 120, d, 59] ++ s = 38 :: 35 :: 120 :: d :: 59 :: s from rfl, hpc]; rfl) (by rw [show [38, 35, 120, d, 59] ++ s = 38 :: 35 :: 120 :: d :: 59 :: s from rfl, hpc]; rfl)
  simp only [signs, List.mem_cons, List.not_mem_nil, or_false] at hp
  rcases hp with rfl | rfl | rfl | rfl | rfl | rfl | rfl | rfl
  · exact hN 97 [109, 112] 38 (by decide) (by decide) (by decide) (by decide +kernel) (by decide +kernel)
  · exact hN 108 [116] 60 (by decide) (by decide) (by decide) (by decide +kernel) (by decide +kernel)
  · exact hN 103 [116] 62 (by decide) (by decide) (by decide) (by decide +kernel) (by decide +kernel)
  · exact hX 68 (by decide) (by decide)
  · exact hN 113 [117, 111, 116] 34 (by decide) (by decide) (by decide) (by decide +kernel) (by decide +kernel)
  · exact hN 97 [112, 111, 115] 39 (by decide) (by decide) (by decide) (by decide +kernel) (by decide +kernel)
  · exact hX 57 (by decide) (by decide)
  · exact hX 65 (by decide) (by decide)
/-- What stands for a rune is none of the signs, or that one. -/
theorem sign_in (l : List Int) (i : Nat) (q : Int) : (signF l i q = [] ∧ l.getD i 0 ≠ 38 ∧ l.getD i 0 ≠ 60 ∧ l.getD i 0 ≠ 13 ∧ ((q = 34 ∨ q = 39) → l.getD i 0 ≠ q ∧ l.getD i 0 ≠ 9 ∧ l.getD i 0 ≠ 10)) ∨ (signF l i q, l.getD i 0) ∈ signs := by
  unfold signF
  obtain ⟨r, hr⟩ : ∃ r, l.getD i 0 = r := ⟨_, rfl⟩
  rw [hr]
  dsimp only
  repeat' split
  all_goals first
    | (rename_i h; subst h; right; simp [signs]; done)
    | (rename_i h; obtain ⟨h, _⟩ := h; subst h; right; simp [signs]; done)
    | (rename_i h; obtain ⟨_, h⟩ := h; subst h; right; simp [signs]; done)
    | (left; refine ⟨rfl, by assumption, by assumption, by assumption, fun hq => ?_⟩; exact absurd hq (by assumption))
    | (left; refine ⟨rfl, by assumption, by assumption, by assumption, fun hq => ⟨by assumption, by assumption, by assumption⟩⟩)
    | (right; have h39 : r = 39 := (by omega); rw [h39]; simp [signs]; done)
theorem put_means (l : List Int) (q : Int) : ∀ (f i : Nat), l.length ≤ f + i → i ≤ l.length → plainlyF (putF l q i) = some (l.drop i)
  | 0, i, h, h' => by
    rw [putF_end (by omega), List.drop_eq_nil_of_le (by omega)]
    rfl
  | f + 1, i, h, h' => by
    by_cases hi : i < l.length
    · have hx : l[i]? = some (l.getD i 0) := by
        rw [List.getD_eq_getElem?_getD, List.getElem?_eq_getElem hi]
        rfl
      have hd : l.drop i = l.getD i 0 :: l.drop (i + 1) := by
        obtain ⟨hk, hv⟩ := List.getElem?_eq_some_iff.1 hx
        rw [← hv]
        exact List.drop_eq_getElem_cons hk
      rw [putF_step hi, hd]
      have ih := put_means l q f (i + 1) (by omega) (by omega)
      unfold outF
      rcases sign_in l i q with ⟨h0, h38, _⟩ | hs
      · rw [if_pos h0]
        show plainlyF (l.getD i 0 :: putF l q (i + 1)) = _
        rw [plainly_char h38, ih]
        rfl
      · have hne : signF l i q ≠ [] := by
          intro e
          rw [e] at hs
          simp [signs] at hs
        rw [if_neg hne]
        have := signs_mean hs (putF l q (i + 1))
        dsimp only at this
        rw [this, ih]
        rfl
    · rw [putF_end hi, List.drop_eq_nil_of_le (by omega)]
      rfl
/-- What Put makes has none of what must not stand. -/
theorem put_apart (l : List Int) (q : Int) (hq : q = 34 ∨ q = 39) : ∀ (f i : Nat), l.length ≤ f + i → ∀ x ∈ putF l q i, x ≠ 60 ∧ x ≠ q ∧ x ≠ 9 ∧ x ≠ 10 ∧ x ≠ 13
  | 0, i, h, x, hx => by
    rw [putF_end (by omega)] at hx
    cases hx
  | f + 1, i, h, x, hx => by
    by_cases hi : i < l.length
    · rw [putF_step hi, List.mem_append] at hx
      rcases hx with hx | hx
      · unfold outF at hx
        rcases sign_in l i q with ⟨h0, h38, h60, h13, hqq⟩ | hs
        · rw [if_pos h0, List.mem_singleton] at hx
          subst hx
          obtain ⟨a, b, c⟩ := hqq hq
          exact ⟨h60, a, b, c, h13⟩
        · have hne : signF l i q ≠ [] := by
            intro e
            rw [e] at hs
            simp [signs] at hs
          rw [if_neg hne] at hx
          generalize signF l i q = sg at hs hx
          simp only [signs, List.mem_cons, List.not_mem_nil, or_false, Prod.mk.injEq] at hs
          rcases hs with ⟨rfl, _⟩ | ⟨rfl, _⟩ | ⟨rfl, _⟩ | ⟨rfl, _⟩ | ⟨rfl, _⟩ | ⟨rfl, _⟩ | ⟨rfl, _⟩ | ⟨rfl, _⟩ <;>
            simp only [List.mem_cons, List.not_mem_nil, or_false] at hx <;> omega
      · exact put_apart l q hq f (i + 1) (by omega) x hx
    · rw [putF_end hi] at hx
      cases hx
theorem mean_kind {s : List Int} {p : Pc} {a : List Int} (h : meanF s p = some a) : p.kind ≠ 4 := by
  intro e
  unfold meanF at h
  rw [if_neg (by omega), if_neg (by omega), if_neg (by omega)] at h
  cases h
theorem plainly_kinds : ∀ (f : Nat) (s r : List Int), s.length ≤ f → plainlyF s = some r → ∀ p ∈ pcsF s, p.kind ≠ 4
  | 0, s, r, h, _, p, hp => by
    have : s = [] := List.eq_nil_of_length_eq_zero (by omega)
    subst this
    cases hp
  | f + 1, s, r, h, hr, p, hp => by
    by_cases hs : s = []
    · subst hs
      cases hp
    · rw [pcsF_cons hs, List.mem_cons] at hp
      rw [plainlyF_cons hs] at hr
      have hl := pieceF_len hs
      cases hm : meanF s (pieceF s) with
      | none => rw [hm] at hr; cases hr
      | some a =>
        cases hq : plainlyF (s.drop (pieceF s).len) with
        | none => rw [hm, hq] at hr; cases hr
        | some b =>
          rcases hp with rfl | hp
          · exact mean_kind hm
          · exact plainly_kinds f _ b (by rw [List.length_drop]; have := List.length_pos_iff.2 hs; omega) hq p hp
/-- Lines' ends as line feeds: no carriage return is left; done once is done. -/
theorem lines_no : ∀ (s : List Int), ∀ x ∈ linesF s, x ≠ 13
  | [], x, h => by cases h
  | [y], x, h => by
    rw [linesF] at h
    split at h <;> simp at h <;> omega
  | y :: z :: s, x, h => by
    have ih := lines_no (z :: s)
    rw [linesF] at h
    (repeat' split at h)
    · exact ih x h
    · rcases List.mem_cons.1 h with rfl | h
      · decide
      · exact ih x h
    · rcases List.mem_cons.1 h with rfl | h
      · assumption
      · exact ih x h
theorem lines_id : ∀ (s : List Int), (∀ x ∈ s, x ≠ 13) → linesF s = s
  | [], _ => rfl
  | [y], h => by
    rw [linesF, if_neg (h y (by simp))]
  | y :: z :: s, h => by
    rw [linesF, if_neg (h y (by simp)), lines_id (z :: s) (fun x hx => h x (by simp at hx ⊢; right; exact hx))]
end Go.Proofs.Ytmicmmbdkmmnoaa
