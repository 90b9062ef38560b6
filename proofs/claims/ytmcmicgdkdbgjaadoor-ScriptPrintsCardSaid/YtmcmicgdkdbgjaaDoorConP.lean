/- Configs as plain data: numbers and their digits, what a word says, what a text is. No program in sight. -/
import Derived.Test.YtmcmicgdkdbgjaaDoorApp
namespace Go.Proofs.YtmcmicgdkdbgjaaDoor

structure Cf where
  i : Int
  d : Int
  q : Int
  e : Int
  l : Int
  t : Bool
  r : Bool
def near (n lo hi : Int) : Int := if n < lo then lo else if hi < n then hi else n
def clampF (c : Cf) : Cf := ⟨near c.i 0 8, near c.d 20 200, near c.q 0 2, near c.e 0 3, near c.l 0 2, c.t, c.r⟩
def Cf.val (c : Cf) : Value := .agg #[.int .i64 c.i, .int .i64 c.d, .int .i64 c.q, .int .i64 c.e, .int .i64 c.l, .bool c.t, .bool c.r]
def Cf.cells (c : Cf) : Array Value := #[.int .i64 c.i, .int .i64 c.d, .int .i64 c.q, .int .i64 c.e, .int .i64 c.l, .bool c.t, .bool c.r]
theorem near_idem (n lo hi : Int) (h : lo ≤ hi) : near (near n lo hi) lo hi = near n lo hi := by
  unfold near
  (repeat' split) <;> omega
theorem clamp_idem (c : Cf) : clampF (clampF c) = clampF c := by
  unfold clampF
  simp only [near_idem _ 0 8 (by omega), near_idem _ 20 200 (by omega), near_idem _ 0 2 (by omega), near_idem _ 0 3 (by omega)]
theorem near_bd (n lo hi : Int) (h : lo ≤ hi) : lo ≤ near n lo hi ∧ near n lo hi ≤ hi := by
  unfold near
  (repeat' split) <;> omega

/-! Digits. -/
def decF (n : Nat) : List UInt8 := if h : n < 10 then [UInt8.ofNat (48 + n)] else decF (n / 10) ++ [UInt8.ofNat (48 + n % 10)]
termination_by n
decreasing_by omega
theorem decF_lt {n : Nat} (h : n < 10) : decF n = [UInt8.ofNat (48 + n)] := by rw [decF, dif_pos h]
theorem decF_ge {n : Nat} (h : ¬ n < 10) : decF n = decF (n / 10) ++ [UInt8.ofNat (48 + n % 10)] := by rw [decF, dif_neg h]
def isD (b : UInt8) : Bool := decide (48 ≤ b.toNat) && decide (b.toNat ≤ 57)
def valF (l : List UInt8) : Nat := l.foldl (fun n b => 10 * n + (b.toNat - 48)) 0
theorem valF_snoc (l : List UInt8) (b : UInt8) : valF (l ++ [b]) = 10 * valF l + (b.toNat - 48) := by
  unfold valF
  rw [List.foldl_append]
  rfl
theorem digit_nat {k : Nat} (h : k < 10) : (UInt8.ofNat (48 + k)).toNat = 48 + k := by
  show (48 + k) % 256 = 48 + k
  omega
theorem digit_back {b : UInt8} (h : isD b = true) : UInt8.ofNat (48 + (b.toNat - 48)) = b := by
  unfold isD at h
  simp at h
  apply UInt8.toNat_inj.1
  have := b.toNat_lt
  show (48 + (b.toNat - 48)) % 256 = b.toNat
  omega
theorem val_dec (n : Nat) : valF (decF n) = n := by
  induction n using Nat.strongRecOn with
  | ind n ih =>
    by_cases h : n < 10
    · rw [decF_lt h]
      show 10 * 0 + ((UInt8.ofNat (48 + n)).toNat - 48) = n
      rw [digit_nat h]
      omega
    · rw [decF_ge h, valF_snoc, ih (n / 10) (by omega), digit_nat (Nat.mod_lt _ (by omega))]
      omega
theorem dec_digits (n : Nat) : ∀ b ∈ decF n, isD b = true := by
  induction n using Nat.strongRecOn with
  | ind n ih =>
    intro b hb
    by_cases h : n < 10
    · rw [decF_lt h] at hb
      rw [List.mem_singleton.1 hb]
      unfold isD
      rw [digit_nat h]
      simp
      omega
    · rw [decF_ge h] at hb
      rcases List.mem_append.1 hb with hb | hb
      · exact ih (n / 10) (by omega) b hb
      · rw [List.mem_singleton.1 hb]
        unfold isD
        rw [digit_nat (Nat.mod_lt _ (by omega))]
        simp
        omega
theorem dec_ne (n : Nat) : decF n ≠ [] := by
  by_cases h : n < 10
  · rw [decF_lt h]
    simp
  · rw [decF_ge h]
    simp
/-- A number that is not 0 begins with no 0. -/
theorem dec_head (n : Nat) : 0 < n → ∀ b t, decF n = b :: t → b ≠ 48 := by
  induction n using Nat.strongRecOn with
  | ind n ih =>
    intro hn b t e
    by_cases h : n < 10
    · rw [decF_lt h] at e
      injection e with e _
      intro hb
      subst e
      have := congrArg UInt8.toNat hb
      rw [digit_nat h] at this
      simp at this
      omega
    · rw [decF_ge h] at e
      cases hd : decF (n / 10) with
      | nil => exact absurd hd (dec_ne _)
      | cons c u =>
        rw [hd] at e
        injection e with e _
        subst e
        exact ih (n / 10) (by omega) (by omega) c u hd
theorem dec_len (n : Nat) : (decF n).length = 1 ↔ n < 10 := by
  by_cases h : n < 10
  · rw [decF_lt h]
    simp [h]
  · rw [decF_ge h]
    have := List.length_pos_iff.2 (dec_ne (n / 10))
    rw [List.length_append, List.length_singleton]
    constructor
    · intro e
      omega
    · intro e
      exact absurd e h
theorem dec_max (n k : Nat) (h : n < 10 ^ (k + 1)) : (decF n).length ≤ k + 1 := by
  induction k generalizing n with
  | zero =>
    rw [(dec_len n).2 (by omega)]
    omega
  | succ k ih =>
    by_cases h1 : n < 10
    · rw [decF_lt h1]
      simp
    · rw [decF_ge h1, List.length_append, List.length_singleton]
      have := ih (n / 10) (by rw [Nat.pow_succ] at h; omega)
      omega
/-- Digits with no 0 ahead are those of what they are worth. -/
theorem dec_val : ∀ (k : Nat) (l : List UInt8), l.length = k → l ≠ [] → (∀ b ∈ l, isD b = true) → (l.length = 1 ∨ l.head? ≠ some 48) → decF (valF l) = l ∧ (1 < l.length → 0 < valF l)
  | 0, l, hk, hn, _, _ => absurd (List.eq_nil_of_length_eq_zero hk) hn
  | k + 1, l, hk, hn, hd, hh => by
    obtain ⟨m, b, rfl⟩ : ∃ m b, l = m ++ [b] := ⟨l.dropLast, l.getLast hn, (List.dropLast_concat_getLast hn).symm⟩
    have hb := hd b (by simp)
    have hb2 : b.toNat - 48 < 10 := by
      unfold isD at hb
      simp at hb
      omega
    rw [valF_snoc]
    cases m with
    | nil =>
      refine ⟨?_, by simp⟩
      show decF (10 * 0 + (b.toNat - 48)) = [b]
      rw [decF_lt (by omega), Nat.mul_zero, Nat.zero_add, digit_back hb]
    | cons c m =>
      have hh2 : c ≠ 48 := by
        rcases hh with hh | hh
        · simp at hh
        · simpa using hh
      obtain ⟨h1, h2⟩ := dec_val k (c :: m) (by simp at hk ⊢; omega) (by simp) (fun x hx => hd x (by simp at hx ⊢; rcases hx with hx | hx <;> simp [hx])) (.inr (by simpa using hh2))
      have hpos : 0 < valF (c :: m) := by
        cases m with
        | nil =>
          have hc := hd c (by simp)
          unfold isD at hc
          simp at hc
          show 0 < 10 * 0 + (c.toNat - 48)
          have : c.toNat ≠ 48 := fun e => hh2 (UInt8.toNat_inj.1 e)
          omega
        | cons d m => exact h2 (by simp)
      refine ⟨?_, fun _ => by omega⟩
      rw [decF_ge (by omega), show (10 * valF (c :: m) + (b.toNat - 48)) / 10 = valF (c :: m) by omega, show (10 * valF (c :: m) + (b.toNat - 48)) % 10 = b.toNat - 48 by omega, h1, digit_back hb]
/-- What digits are worth: nothing, if they are none, too many, or begin with a 0. -/
def cnumF (l : List UInt8) : Option Nat := if l = [] ∨ 4 < l.length ∨ (1 < l.length ∧ l.head? = some 48) ∨ l.all isD = false then none else some (valF l)
/-- The document's way. -/
def valR (l : List UInt8) : Option Nat := if l.all isD = false ∨ 4 < l.length ∨ l = [] ∨ decF (valF l) ≠ l then none else some (valF l)
theorem valR_eq (l : List UInt8) : valR l = cnumF l := by
  unfold valR cnumF
  by_cases h1 : l.all isD = false
  · rw [if_pos (.inl h1), if_pos (.inr (.inr (.inr h1)))]
  by_cases h2 : 4 < l.length
  · rw [if_pos (.inr (.inl h2)), if_pos (.inr (.inl h2))]
  by_cases h3 : l = []
  · rw [if_pos (.inr (.inr (.inl h3))), if_pos (.inl h3)]
  have hd : ∀ b ∈ l, isD b = true := by
    have : l.all isD = true := by simpa using h1
    exact List.all_eq_true.1 this
  by_cases h4 : 1 < l.length ∧ l.head? = some 48
  · have : decF (valF l) ≠ l := by
      intro e
      cases l with
      | nil => exact h3 rfl
      | cons c m =>
        have hc : c = 48 := by simpa using h4.2
        have hv : ¬ valF (c :: m) < 10 := fun h => by
          have := (dec_len _).2 h
          rw [e] at this
          omega
        exact dec_head _ (by omega) c m e hc
    rw [if_pos (.inr (.inr (.inr this))), if_pos (.inr (.inr (.inl h4)))]
  · have : decF (valF l) = l := (dec_val _ l rfl h3 hd (by
      rcases Nat.lt_or_ge 1 l.length with h | h
      · exact .inr fun e => h4 ⟨h, e⟩
      · exact .inl (by have := List.length_pos_iff.2 h3; omega))).1
    rw [if_neg (by simp [h1, h2, h3, this]), if_neg]
    rintro (h | h | h | h)
    · exact h3 h
    · exact h2 h
    · exact h4 h
    · exact h1 h
theorem numF_dec {n : Nat} (h : n < 10000) : cnumF (decF n) = some n := by
  rw [← valR_eq]
  unfold valR
  rw [if_neg, val_dec]
  rintro (h1 | h1 | h1 | h1)
  · have : (decF n).all isD = true := List.all_eq_true.2 (dec_digits n)
    rw [this] at h1
    cases h1
  · have := dec_max n 3 (by omega)
    omega
  · exact dec_ne n h1
  · rw [val_dec] at h1
    exact h1 rfl
theorem numF_bd {l : List UInt8} {n : Nat} (h : cnumF l = some n) : n < 10000 ∧ l ≠ [] ∧ l.length ≤ 4 ∧ (∀ b ∈ l, isD b = true) ∧ valF l = n := by
  unfold cnumF at h
  split at h
  · cases h
  · rename_i hh
    injection h with h
    have h1 : ∀ b ∈ l, isD b = true := by
      have : l.all isD = true := by
        cases hz : l.all isD
        · exact absurd (.inr (.inr (.inr hz))) hh
        · rfl
      exact List.all_eq_true.1 this
    have h2 : l.length ≤ 4 := by
      rcases Nat.lt_or_ge 4 l.length with g | g
      · exact absurd (.inr (.inl g)) hh
      · exact g
    refine ⟨?_, fun e => hh (.inl e), h2, h1, h⟩
    have h3 : valF l < 10 ^ l.length := by
      clear hh h h2
      have key : ∀ (l : List UInt8) (a : Nat), (∀ b ∈ l, isD b = true) → l.foldl (fun n b => 10 * n + (b.toNat - 48)) a < (a + 1) * 10 ^ l.length := by
        intro l
        induction l with
        | nil => intro a _; simp
        | cons c l ih =>
          intro a hd
          have hc := hd c (by simp)
          unfold isD at hc
          simp at hc
          have := ih (10 * a + (c.toNat - 48)) (fun b hb => hd b (by simp [hb]))
          rw [List.foldl_cons, List.length_cons, Nat.pow_succ]
          refine Nat.lt_of_lt_of_le this ?_
          rw [Nat.mul_comm (10 ^ l.length) 10, ← Nat.mul_assoc]
          exact Nat.mul_le_mul_right _ (by omega)
      have := key l 0 h1
      simpa [valF] using this
    rw [← h]
    have h4 : 10 ^ l.length ≤ 10 ^ 4 := Nat.pow_le_pow_right (by omega) h2
    omega
end Go.Proofs.YtmcmicgdkdbgjaaDoor
