/- Layer 9 in plain words: parts, items, words cover their runes. No program in sight. -/
import Derived.Test.YtnfcfpcpfnhcnaaDtdI
namespace Go.Proofs.Ytnfcfpcpfnhcnaa
open Go.RowKit

/-- One behind the other, from a place up to another one. -/
def Cov (b : Int) : Int → List Prt → Prop
  | a, [] => a = b
  | a, p :: ps => p.f = a ∧ p.f < p.t ∧ Cov b p.t ps
theorem Cov.append {m b : Int} : ∀ {a : Int} {L L' : List Prt}, Cov m a L → Cov b m L' → Cov b a (L ++ L')
  | a, [], L', h, h' => by
    have : a = m := h
    subst this
    exact h'
  | a, p :: ps, L', ⟨h1, h2, h3⟩, h' => ⟨h1, h2, h3.append h'⟩
theorem Cov.bd {b : Int} : ∀ {a : Int} {L : List Prt}, Cov b a L → a ≤ b ∧ ∀ p ∈ L, a ≤ p.f ∧ p.f < p.t ∧ p.t ≤ b
  | a, [], h => by
    have : a = b := h
    exact ⟨by omega, by simp⟩
  | a, p :: ps, ⟨h1, h2, h3⟩ => by
    obtain ⟨h4, h5⟩ := h3.bd
    refine ⟨by omega, fun q hq => ?_⟩
    rcases List.mem_cons.1 hq with rfl | hq
    · exact ⟨by omega, h2, h4⟩
    · obtain ⟨h6, h7, h8⟩ := h5 q hq
      exact ⟨by omega, h7, h8⟩
theorem cov_chain {step : List Int → Int × Nat} (hb : ∀ s, s ≠ [] → 1 ≤ (step s).2 ∧ (step s).2 ≤ s.length) : ∀ (n : Nat) (a : Int) (s : List Int), s.length ≤ n → Cov (a + s.length) a (chainX step a s)
  | n, a, [], _ => by
    show a = a + ((0 : Nat) : Int)
    omega
  | 0, a, x :: t, h => by simp at h
  | n + 1, a, x :: t, h => by
    obtain ⟨h1, h2⟩ := hb (x :: t) (by simp)
    rw [chainX_cons hb a (x :: t) (by simp)]
    refine ⟨rfl, by dsimp only; omega, ?_⟩
    have h3 := cov_chain hb n (a + (step (x :: t)).2) ((x :: t).drop (step (x :: t)).2) (by rw [List.length_drop]; omega)
    rw [List.length_drop] at h3
    rw [show a + ((x :: t).length : Int) = a + ((step (x :: t)).2 : Int) + (((x :: t).length - (step (x :: t)).2 : Nat) : Int) by omega]
    exact h3
theorem cov_sub (a : Int) {s : List Int} (h : s ≠ []) : Cov (a + subN s) a (subP a s) := by
  have h0 : 0 < s.length := List.length_pos_iff.2 h
  have h1 := closS_le _ (s.drop 1) (Nat.le_refl _)
  rw [List.length_drop] at h1
  unfold subP subN
  generalize closS (s.drop 1) = e at h1 ⊢
  by_cases c1 : 0 < e <;> by_cases c2 : e + 1 < s.length
  · simp only [if_pos c1, if_pos c2]
    exact ⟨rfl, by dsimp only; omega, rfl, by dsimp only; omega, rfl, by dsimp only; omega, by show a + 2 + (e : Int) = a + ((e + 2 : Nat) : Int); omega⟩
  · simp only [if_pos c1, if_neg c2]
    exact ⟨rfl, by dsimp only; omega, rfl, by dsimp only; omega, by show a + 1 + (e : Int) = a + ((e + 1 : Nat) : Int); omega⟩
  · simp only [if_neg c1, if_pos c2]
    exact ⟨rfl, by dsimp only; omega, by dsimp only; omega, by dsimp only; omega, by show a + 2 + (e : Int) = a + ((e + 2 : Nat) : Int); omega⟩
  · simp only [if_neg c1, if_neg c2]
    exact ⟨rfl, by dsimp only; omega, by show a + 1 = a + ((e + 1 : Nat) : Int); omega⟩
theorem cov_part : ∀ (n : Nat) (a : Int) (s : List Int) (op : Bool), s.length ≤ n → Cov (a + s.length) a (partX a s op)
  | n, a, [], op, _ => by
    show a = a + ((0 : Nat) : Int)
    omega
  | 0, a, x :: t, op, h => by simp at h
  | n + 1, a, x :: t, op, h => by
    by_cases hc : (x :: t)[0]? = some 91 ∧ op = false
    · obtain ⟨hx, rfl⟩ := hc
      obtain ⟨h1, h2⟩ := subN_bd (x :: t) (by simp)
      rw [partX_sub a hx]
      refine (cov_sub a (by simp)).append ?_
      have h3 := cov_part n (a + subN (x :: t)) ((x :: t).drop (subN (x :: t))) true (by rw [List.length_drop]; omega)
      rw [List.length_drop] at h3
      rw [show a + ((x :: t).length : Int) = a + (subN (x :: t) : Int) + (((x :: t).length - subN (x :: t) : Nat) : Int) by omega]
      exact h3
    · obtain ⟨h1, h2⟩ := wordF_bd (x :: t) (by simp)
      rw [partX_word a (by simp) hc]
      refine ⟨rfl, by dsimp only; omega, ?_⟩
      have h3 := cov_part n (a + (wordF (x :: t)).2) ((x :: t).drop (wordF (x :: t)).2) op (by rw [List.length_drop]; omega)
      rw [List.length_drop] at h3
      rw [show a + ((x :: t).length : Int) = a + ((wordF (x :: t)).2 : Int) + (((x :: t).length - (wordF (x :: t)).2 : Nat) : Int) by omega]
      exact h3
theorem cov_row {step : List Int → Int × Nat} (hb : ∀ s, s ≠ [] → 1 ≤ (step s).2 ∧ (step s).2 ≤ s.length) (l : List Int) : Cov l.length 0 (rowL step l 0 l.length) := by
  have h := cov_chain hb _ 0 l (Nat.le_refl _)
  unfold rowL
  rw [if_neg (by omega)]
  simpa using h
theorem cov_parts (l : List Int) (f t : Int) (h : 0 ≤ f ∧ f ≤ t ∧ t ≤ l.length) : Cov t f (partL l f t) := by
  obtain ⟨F, rfl⟩ := Int.eq_ofNat_of_zero_le h.1
  obtain ⟨T, rfl⟩ := Int.eq_ofNat_of_zero_le (show 0 ≤ t by omega)
  unfold partL
  rw [if_neg (by omega)]
  simp only [Int.toNat_natCast]
  have hl : (l.take T).length = T := by rw [List.length_take]; omega
  split
  · rename_i h1
    have h2 : 9 ≤ ((l.take T).drop F).length := startsF_len h1
    rw [List.length_drop, hl] at h2
    refine ⟨rfl, by dsimp only; omega, ?_⟩
    have h3 := cov_part _ ((F : Int) + 9) ((l.take T).drop (F + 9)) false (Nat.le_refl _)
    rw [List.length_drop, hl] at h3
    rw [show (F : Int) + 9 + ((T - (F + 9) : Nat) : Int) = T by omega] at h3
    exact h3
  · have h3 := cov_chain wordF_bd _ (F : Int) ((l.take T).drop F) (Nat.le_refl _)
    rw [List.length_drop, hl] at h3
    rw [show (F : Int) + ((T - F : Nat) : Int) = T by omega] at h3
    exact h3
def Quo (p : Prt) : Prop := p.k = 4 → p.f + 2 ≤ p.t
theorem quoF_two (s : List Int) : quoF s = 0 ∨ 2 ≤ quoF s := by
  cases s with
  | nil => exact .inl rfl
  | cons x t =>
    rw [quoF]
    split
    · split
      · exact .inr (by omega)
      · exact .inl rfl
    · exact .inl rfl
theorem wordF_quo (s : List Int) (a : Int) : Quo ⟨(wordF s).1, a, a + (wordF s).2⟩ := by
  intro h
  dsimp only at h ⊢
  unfold wordF at h ⊢
  split at h
  · cases h
  split at h
  · cases h
  split at h
  · rename_i h1 h2 h3
    rw [if_neg h1, if_neg h2, if_pos h3]
    have := quoF_two s
    dsimp only
    omega
  · cases h
theorem chain_quo : ∀ (n : Nat) (a : Int) (s : List Int), s.length ≤ n → ∀ p ∈ chainX wordF a s, Quo p
  | n, a, [], _ => by simp [chainX_nil]
  | 0, a, x :: t, h => by simp at h
  | n + 1, a, x :: t, h => by
    obtain ⟨h1, h2⟩ := wordF_bd (x :: t) (by simp)
    rw [chainX_cons wordF_bd a (x :: t) (by simp)]
    intro p hp
    rcases List.mem_cons.1 hp with rfl | hp
    · exact wordF_quo _ _
    · exact chain_quo n _ _ (by rw [List.length_drop]; omega) p hp
theorem part_quo : ∀ (n : Nat) (a : Int) (s : List Int) (op : Bool), s.length ≤ n → ∀ p ∈ partX a s op, Quo p
  | n, a, [], op, _ => by simp [partX_nil]
  | 0, a, x :: t, op, h => by simp at h
  | n + 1, a, x :: t, op, h => by
    intro p hp
    by_cases hc : (x :: t)[0]? = some 91 ∧ op = false
    · obtain ⟨hx, rfl⟩ := hc
      obtain ⟨h1, h2⟩ := subN_bd (x :: t) (by simp)
      rw [partX_sub a hx] at hp
      rcases List.mem_append.1 hp with hp | hp
      · unfold subP at hp
        intro hk
        exfalso
        simp only [List.mem_append, List.mem_singleton] at hp
        rcases hp with (rfl | hp) | hp
        · cases hk
        · split at hp
          · rw [List.mem_singleton] at hp
            subst hp
            cases hk
          · simp at hp
        · split at hp
          · rw [List.mem_singleton] at hp
            subst hp
            cases hk
          · simp at hp
      · exact part_quo n _ _ true (by rw [List.length_drop]; omega) p hp
    · obtain ⟨h1, h2⟩ := wordF_bd (x :: t) (by simp)
      rw [partX_word a (by simp) hc] at hp
      rcases List.mem_cons.1 hp with rfl | hp
      · split
        · intro hk; cases hk
        · exact wordF_quo _ _
      · exact part_quo n _ _ op (by rw [List.length_drop]; omega) p hp
theorem parts_ok (l : List Int) (f t : Int) : PartsOk l.length (partL l f t) := by
  intro p hp
  by_cases hbad : f < 0 ∨ t < f ∨ (l.length : Int) < t
  · unfold partL at hp
    rw [if_pos hbad] at hp
    simp at hp
  · obtain ⟨_, h2⟩ := (cov_parts l f t (by omega)).bd
    obtain ⟨h3, h4, h5⟩ := h2 p hp
    refine ⟨by omega, h4, by omega, ?_⟩
    unfold partL at hp
    rw [if_neg hbad] at hp
    split at hp
    · rcases List.mem_cons.1 hp with rfl | hp
      · intro hk; cases hk
      · exact part_quo _ _ _ _ (Nat.le_refl _) p hp
    · exact chain_quo _ _ _ (Nat.le_refl _) p hp
theorem cov_len {b : Int} : ∀ {a : Int} {L : List Prt}, Cov b a L → a + L.length ≤ b
  | a, [], h => by
    have : a = b := h
    simp
    omega
  | a, p :: ps, ⟨h1, h2, h3⟩ => by
    have := cov_len h3
    simp
    omega
theorem parts_len (l : List Int) (f t : Int) : (partL l f t).length ≤ l.length := by
  by_cases hbad : f < 0 ∨ t < f ∨ (l.length : Int) < t
  · unfold partL
    rw [if_pos hbad]
    exact Nat.zero_le _
  · have := cov_len (cov_parts l f t (by omega))
    omega
end Go.Proofs.Ytnfcfpcpfnhcnaa
