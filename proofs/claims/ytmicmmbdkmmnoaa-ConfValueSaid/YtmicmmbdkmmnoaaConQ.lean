/- A config's text as plain data: both ways of reading a word say the same. -/
import Derived.Test.YtmicmmbdkmmnoaaConY
import Derived.Test.YtmicmmbdkmmnoaaConZ
namespace Go.Proofs.Ytmicmmbdkmmnoaa

def nameR : Nat → ByteArray
  | 0 => ⟨#[105, 110, 100, 101, 110, 116]⟩
  | 1 => ⟨#[119, 105, 100, 116, 104]⟩
  | 2 => ⟨#[113, 117, 111, 116, 101]⟩
  | 3 => ⟨#[101, 109, 112, 116, 121]⟩
  | 4 => ⟨#[108, 105, 110, 101]⟩
  | 5 => ⟨#[116, 97, 98, 115]⟩
  | _ => ⟨#[119, 114, 97, 112]⟩
theorem five {p : Nat → Prop} (h0 : p 0) (h1 : p 1) (h2 : p 2) (h3 : p 3) (h4 : p 4) : ∀ i, i < 5 → p i
  | 0, _ => h0
  | 1, _ => h1
  | 2, _ => h2
  | 3, _ => h3
  | 4, _ => h4
  | n + 5, h => absurd h (by omega)
theorem seven {p : Nat → Prop} (h0 : p 0) (h1 : p 1) (h2 : p 2) (h3 : p 3) (h4 : p 4) (h5 : p 5) (h6 : p 6) : ∀ i, i < 7 → p i
  | 0, _ => h0
  | 1, _ => h1
  | 2, _ => h2
  | 3, _ => h3
  | 4, _ => h4
  | 5, _ => h5
  | 6, _ => h6
  | n + 7, h => absurd h (by omega)
theorem key_list : ∀ i, i < 5 → (keyS i).toList = (nameR i).toList ++ [61] := by
  apply five <;> (rw [ByteArray.toList_eq, ByteArray.toList_eq]; rfl)
theorem name_no : ∀ i, i < 5 → (61 : UInt8) ∉ (nameR i).toList := by
  apply five <;> (rw [ByteArray.toList_eq]; decide)
theorem name_inj : ∀ i, i < 7 → ∀ j, j < 7 → nameR i = nameR j → i = j := by
  have key : ∀ i, i < 7 → ∀ j, j < 7 → (nameR i).data.toList = (nameR j).data.toList → i = j := by decide
  exact fun i hi j hj h => key i hi j hj (by rw [h])
theorem key_inj : ∀ i, i < 7 → ∀ j, j < 7 → keyS i = keyS j → i = j := by
  have key : ∀ i, i < 7 → ∀ j, j < 7 → (keyS i).data.toList = (keyS j).data.toList → i = j := by decide
  exact fun i hi j hj h => key i hi j hj (by rw [h])
theorem key_size : ∀ i, i < 5 → (keyS i).size = (nameR i).size + 1 := by apply five <;> rfl
theorem extract_list (s : ByteArray) (a b : Nat) (_ : b ≤ s.size) : (s.extract a b).toList = (s.toList.drop a).take (b - a) := by
  rw [ByteArray.toList_eq, ByteArray.toList_eq, ByteArray.data_extract, Array.toList_extract]
theorem pre_iff (p s : ByteArray) : preB p s = true ↔ ∃ r, s.toList = p.toList ++ r := by
  have hs := bytes_len s
  have hp := bytes_len p
  unfold preB
  rw [Bool.and_eq_true, decide_eq_true_iff, beq_iff_eq]
  constructor
  · rintro ⟨h1, h2⟩
    rw [extract_list s 0 p.size h1, List.drop_zero, Nat.sub_zero] at h2
    exact ⟨s.toList.drop p.size, by rw [← h2, List.take_append_drop]⟩
  · rintro ⟨r, hr⟩
    have h1 : p.size ≤ s.size := by
      rw [← hs, hr, List.length_append, hp]
      omega
    refine ⟨h1, ?_⟩
    rw [extract_list s 0 p.size h1, List.drop_zero, Nat.sub_zero, hr, List.take_append, ← hp, List.take_length]
    simp
theorem eqAt_pre : ∀ (a r : List UInt8) (k : Nat), (61 : UInt8) ∉ a → eqAt k (a ++ 61 :: r) = some (k + a.length)
  | [], r, k, _ => by simp [eqAt]
  | b :: a, r, k, h => by
    have h1 : b ≠ 61 := fun e => h (by simp [e])
    show (if b = 61 then some k else eqAt (k + 1) (a ++ 61 :: r)) = _
    rw [if_neg h1, eqAt_pre a r (k + 1) (fun e => h (by simp [e]))]
    simp
    omega
theorem eqAt_some : ∀ (l : List UInt8) (k j : Nat), eqAt k l = some j → ∃ a r, l = a ++ 61 :: r ∧ (61 : UInt8) ∉ a ∧ j = k + a.length
  | [], k, j, h => by simp [eqAt] at h
  | b :: l, k, j, h => by
    unfold eqAt at h
    split at h
    · rename_i hb
      injection h with h
      subst h hb
      exact ⟨[], l, rfl, by simp, by simp⟩
    · rename_i hb
      obtain ⟨a, r, rfl, h2, h3⟩ := eqAt_some l (k + 1) j h
      refine ⟨b :: a, r, rfl, ?_, by simp; omega⟩
      intro e
      rcases List.mem_cons.1 e with e | e
      · exact hb e.symm
      · exact h2 e
theorem eqAt_none : ∀ (l : List UInt8) (k : Nat), eqAt k l = none → (61 : UInt8) ∉ l
  | [], _, _ => by simp
  | b :: l, k, h => by
    unfold eqAt at h
    split at h
    · cases h
    · rename_i hb
      intro e
      rcases List.mem_cons.1 e with e | e
      · exact hb e.symm
      · exact eqAt_none l (k + 1) h e
/-- A word that has a sign =. -/
theorem cut_at {s : ByteArray} {a r : List UInt8} (h : s.toList = a ++ 61 :: r) (ha : (61 : UInt8) ∉ a) : eqP s = some a.length ∧ (keyR s).toList = a ∧ cnumR s = cnumF r := by
  have he : eqP s = some a.length := by
    unfold eqP
    rw [h, eqAt_pre a r 0 ha, Nat.zero_add]
  have hl := bytes_len s
  rw [h, List.length_append, List.length_cons] at hl
  refine ⟨he, ?_, ?_⟩
  · unfold keyR
    rw [he]
    show (s.extract 0 a.length).toList = a
    rw [extract_list _ _ _ (by omega), h]
    simp
  · unfold cnumR
    rw [he]
    show cnumF (s.extract (a.length + 1) s.size).toList = cnumF r
    rw [extract_list _ _ _ (Nat.le_refl _), h]
    have : (a ++ 61 :: r).drop (a.length + 1) = r := by
      rw [List.drop_append]
      simp
    rw [this, List.take_of_length_le (by omega)]
theorem pre_name {s : ByteArray} {i : Nat} (hi : i < 5) : preB (keyS i) s = true ↔ ∃ r, s.toList = (nameR i).toList ++ 61 :: r := by
  rw [pre_iff, key_list i hi]
  constructor
  · rintro ⟨r, h⟩
    exact ⟨r, by rw [h]; simp⟩
  · rintro ⟨r, h⟩
    exact ⟨r, by rw [h]; simp⟩
theorem rest_of {s : ByteArray} {i : Nat} (hi : i < 5) {r : List UInt8} (h : s.toList = (nameR i).toList ++ 61 :: r) : restOf i s = r := by
  unfold restOf
  have hl := bytes_len s
  have hn := bytes_len (nameR i)
  rw [h, List.length_append, List.length_cons] at hl
  rw [extract_list _ _ _ (Nat.le_refl _), h, key_size i hi, ← hn]
  have : ((nameR i).toList ++ 61 :: r).drop ((nameR i).toList.length + 1) = r := by
    rw [List.drop_append]
    simp
  rw [this, List.take_of_length_le (by rw [hn]; omega)]
/-- A word of a field. -/
theorem setF_field {s : ByteArray} {i : Nat} (hi : i < 5) {r : List UInt8} (h : s.toList = (nameR i).toList ++ 61 :: r) : setF s = (cnumF r).map (fun n => (i, n)) := by
  have h61 : (61 : UInt8) ∈ s.toList := by rw [h]; simp
  have t1 : (s.toList == [116, 97, 98, 115]) = false := by
    rw [beq_eq_false_iff_ne]
    intro e
    rw [e] at h61
    revert h61
    decide
  have t2 : (s.toList == [119, 114, 97, 112]) = false := by
    rw [beq_eq_false_iff_ne]
    intro e
    rw [e] at h61
    revert h61
    decide
  have hp : ∀ j, j < 5 → (preB (keyS j) s = true ↔ j = i) := by
    intro j hj
    rw [pre_name hj]
    constructor
    · rintro ⟨r', h'⟩
      have c1 := (cut_at h (name_no i hi)).2.1
      have c2 := (cut_at h' (name_no j hj)).2.1
      exact name_inj j (by omega) i (by omega) (cstr_eq (c2.symm.trans c1))
    · rintro rfl
      exact ⟨r, h⟩
  have hr := rest_of hi h
  rw [setF_no t1 t2]
  have f : ∀ j, j < 5 → j ≠ i → preB (keyS j) s = false := fun j hj hne => by
    rw [Bool.eq_false_iff]
    exact fun e => hne ((hp j hj).1 e)
  have g := (hp i hi).2 rfl
  revert i
  have key : ∀ i, i < 5 → preB (keyS i) s = true → (∀ j, j < 5 → j ≠ i → preB (keyS j) s = false) → restOf i s = r → (
      if preB (keyS 0) s then (cnumF (restOf 0 s)).map (fun n => (0, n))
      else if preB (keyS 1) s then (cnumF (restOf 1 s)).map (fun n => (1, n))
      else if preB (keyS 2) s then (cnumF (restOf 2 s)).map (fun n => (2, n))
      else if preB (keyS 3) s then (cnumF (restOf 3 s)).map (fun n => (3, n))
      else if preB (keyS 4) s then (cnumF (restOf 4 s)).map (fun n => (4, n))
      else none) = (cnumF r).map (fun n => (i, n)) := by
    apply five
    · intro g f hr
      rw [if_pos g, hr]
    · intro g f hr
      rw [if_neg (by rw [f 0 (by omega) (by omega)]; simp), if_pos g, hr]
    · intro g f hr
      rw [if_neg (by rw [f 0 (by omega) (by omega)]; simp), if_neg (by rw [f 1 (by omega) (by omega)]; simp), if_pos g, hr]
    · intro g f hr
      rw [if_neg (by rw [f 0 (by omega) (by omega)]; simp), if_neg (by rw [f 1 (by omega) (by omega)]; simp), if_neg (by rw [f 2 (by omega) (by omega)]; simp), if_pos g, hr]
    · intro g f hr
      rw [if_neg (by rw [f 0 (by omega) (by omega)]; simp), if_neg (by rw [f 1 (by omega) (by omega)]; simp), if_neg (by rw [f 2 (by omega) (by omega)]; simp), if_neg (by rw [f 3 (by omega) (by omega)]; simp), if_pos g, hr]
  intro i hi h hp hr f g
  exact key i hi g f hr
/-- A word of no field. -/
theorem setF_none {s : ByteArray} (h : ∀ i, i < 5 → ∀ r, s.toList ≠ (nameR i).toList ++ 61 :: r) : setF s = if s.toList == [116, 97, 98, 115] then some (5, 0) else if s.toList == [119, 114, 97, 112] then some (6, 0) else none := by
  have f : ∀ j, j < 5 → ¬ preB (keyS j) s = true := fun j hj e => by
    obtain ⟨r, hr⟩ := (pre_name hj).1 e
    exact h j hj r hr
  unfold setF
  rw [if_neg (f 0 (by omega)), if_neg (f 1 (by omega)), if_neg (f 2 (by omega)), if_neg (f 3 (by omega)), if_neg (f 4 (by omega))]
/-- What the document's cut says of a word, and what the program's says: the same. -/
inductive WordOf (s : ByteArray) : Prop
  | field (i n : Nat) (hi : i < 5) (hn : n < 10000) (h1 : setF s = some (i, n)) (h2 : keyR s = nameR i) (h3 : cnumR s = some n)
  | bad (i : Nat) (hi : i < 5) (h1 : setF s = none) (h2 : keyR s = nameR i) (h3 : cnumR s = none)
  | flag (i : Nat) (hi : i = 5 ∨ i = 6) (h1 : setF s = some (i, 0)) (h2 : keyR s = nameR i) (h3 : s = nameR i) (h4 : cnumR s = none)
  | other (h1 : setF s = none) (h2 : ∀ i, i < 5 → keyR s ≠ nameR i) (h3 : s ≠ nameR 5) (h4 : s ≠ nameR 6)
theorem name_of {s : ByteArray} {l : List UInt8} (h : (s.toList == l) = true) : s = ⟨l.toArray⟩ := str_of h
theorem word_of (s : ByteArray) : WordOf s := by
  cases he : eqP s with
  | some k =>
    obtain ⟨a, r, hs, ha, hk⟩ := eqAt_some _ _ _ he
    obtain ⟨_, c2, c3⟩ := cut_at hs ha
    by_cases hx : ∃ i, i < 5 ∧ keyR s = nameR i
    · obtain ⟨i, hi, hki⟩ := hx
      have hai : a = (nameR i).toList := by rw [← c2, hki]
      have hs2 := hs
      rw [hai] at hs2
      have hset := setF_field hi hs2
      cases hn : cnumF r with
      | none => exact .bad i hi (by rw [hset, hn]; rfl) hki (by rw [c3, hn])
      | some n => exact .field i n hi (numF_bd hn).1 (by rw [hset, hn]; rfl) hki (by rw [c3, hn])
    · have h61 : (61 : UInt8) ∈ s.toList := by rw [hs]; simp
      have hne : ∀ i, i < 5 → keyR s ≠ nameR i := fun i hi e => hx ⟨i, hi, e⟩
      have n5 : s ≠ nameR 5 := by
        intro e
        rw [e, ByteArray.toList_eq] at h61
        revert h61
        decide
      have n6 : s ≠ nameR 6 := by
        intro e
        rw [e, ByteArray.toList_eq] at h61
        revert h61
        decide
      refine .other ?_ hne n5 n6
      rw [setF_none, if_neg (fun e => n5 (str_of e)), if_neg (fun e => n6 (str_of e))]
      intro i hi r' h'
      exact hne i hi (cstr_eq (cut_at h' (name_no i hi)).2.1)
  | none =>
    have h61 := eqAt_none _ _ he
    have hk : keyR s = s := by unfold keyR; rw [he]
    have hn : cnumR s = none := by unfold cnumR; rw [he]
    have hset := setF_none (s := s) (fun i hi r e => h61 (by rw [e]; simp))
    by_cases h5 : s = nameR 5
    · refine .flag 5 (.inl rfl) ?_ (by rw [hk, h5]) h5 hn
      rw [hset, if_pos]
      rw [h5, ByteArray.toList_eq]
      rfl
    · by_cases h6 : s = nameR 6
      · refine .flag 6 (.inr rfl) ?_ (by rw [hk, h6]) h6 hn
        rw [hset, if_neg (fun e => h5 (str_of e)), if_pos]
        rw [h6, ByteArray.toList_eq]
        rfl
      · have hs0 : setF s = none := by rw [hset, if_neg (fun e => h5 (str_of e)), if_neg (fun e => h6 (str_of e))]
        by_cases hx : ∃ i, i < 5 ∧ keyR s = nameR i
        · obtain ⟨i, hi, hki⟩ := hx
          exact .bad i hi hs0 hki hn
        · exact .other hs0 (fun i hi e => hx ⟨i, hi, e⟩) h5 h6

/-! Texts. -/
def c0 : Cf := ⟨2, 80, 0, 0, 0, false, false⟩
def zeroC : Cf := ⟨0, 0, 0, 0, 0, false, false⟩
/-- The config that words say, behind some. -/
def parseF : Cf → List Nat → List ByteArray → Option Cf
  | c, _, [] => some (clampF c)
  | c, seen, x :: ws => match setF x with
    | none => none
    | some y => if y.1 ∈ seen then none else parseF (upd c y.1 y.2) (seen ++ [y.1]) ws
theorem parseF_bad {c : Cf} {seen : List Nat} {x : ByteArray} {ws : List ByteArray} (h : setF x = none) : parseF c seen (x :: ws) = none := by
  unfold parseF
  rw [h]
theorem parseF_dup {c : Cf} {seen : List Nat} {x : ByteArray} {ws : List ByteArray} {i n : Nat} (h : setF x = some (i, n)) (hm : i ∈ seen) : parseF c seen (x :: ws) = none := by
  unfold parseF
  rw [h]
  exact if_pos hm
theorem parseF_new {c : Cf} {seen : List Nat} {x : ByteArray} {ws : List ByteArray} {i n : Nat} (h : setF x = some (i, n)) (hm : ¬ i ∈ seen) : parseF c seen (x :: ws) = parseF (upd c i n) (seen ++ [i]) ws := by
  conv => lhs; unfold parseF
  rw [h]
  exact if_neg hm
theorem has_of {f : Nat → ByteArray} (hf : ∀ i, i < 7 → ∀ j, j < 7 → f i = f j → i = j) {i : Nat} (hi : i < 7) : ∀ {seen : List Nat}, (∀ j ∈ seen, j < 7) → hasS (f i) (seen.map f) = decide (i ∈ seen)
  | [], _ => by simp [hasS]
  | j :: seen, h => by
    have ih := has_of hf hi (seen := seen) (fun j hj => h j (by simp [hj]))
    unfold hasS at ih ⊢
    rw [List.map_cons, List.any_cons, ih]
    by_cases e : i = j
    · subst e
      simp
    · have : ((f i).toList == (f j).toList) = false := by
        rw [beq_eq_false_iff_ne]
        exact fun e' => e (hf i hi j (h j (by simp)) (cstr_eq e'))
      rw [this]
      simp [e]
theorem setF_lt {s : ByteArray} {i n : Nat} (h : setF s = some (i, n)) : i < 7 ∧ n < 10000 := by
  cases word_of s with
  | field i' n' hi hn h1 _ _ =>
    rw [h1] at h
    injection h with h
    injection h with e1 e2
    omega
  | bad _ _ h1 _ _ => rw [h1] at h; cases h
  | flag i' hi h1 _ _ _ =>
    rw [h1] at h
    injection h with h
    injection h with e1 e2
    omega
  | other h1 _ _ _ => rw [h1] at h; cases h
end Go.Proofs.Ytmicmmbdkmmnoaa
