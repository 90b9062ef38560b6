/- A text in quotes, and read as it was, in plain words. No program in sight. -/
import Derived.Test.YtmcmicgdkdbgjaaDoorScrP
namespace Go.Proofs.YtmcmicgdkdbgjaaDoor

def hexL (d : Nat) : UInt8 := if d < 10 then UInt8.ofNat (48 + d) else UInt8.ofNat (87 + d)
/-- A byte within quotes. -/
def escOf (b : UInt8) : Bs := if b = 34 ∨ b = 92 then [92, b] else if b.toNat < 32 ∨ 126 < b.toNat then [92, 120, hexL (b.toNat / 16), hexL (b.toNat % 16)] else [b]
def quotedF (s : Bs) : Bs := 34 :: (s.flatMap escOf ++ [34])
theorem hex_back : ∀ d : Fin 16, hexF (hexL d.val) = some d.val := by decide
theorem hex_backN {d : Nat} (h : d < 16) : hexF (hexL d) = some d := hex_back ⟨d, h⟩
theorem readS_step {b : UInt8} {rest : Bs} {x : Bs × Nat} (h : readS rest 0 = some x) : readS (escOf b ++ rest) 0 = some (b :: x.1, x.2 + (escOf b).length) := by
  unfold escOf
  by_cases h1 : b = 34 ∨ b = 92
  · rw [if_pos h1]
    show readS (92 :: b :: rest) 0 = _
    rw [readS, if_neg (by decide), if_pos rfl, escF, if_pos h1]
    dsimp only
    rw [readS, h]
    rfl
  · rw [if_neg h1]
    by_cases h2 : b.toNat < 32 ∨ 126 < b.toNat
    · rw [if_pos h2]
      have hb := b.toNat_lt
      have he : escF (120 :: hexL (b.toNat / 16) :: hexL (b.toNat % 16) :: rest) = some (b, 3) := by
        rw [escF, if_neg (by decide), if_neg (by decide)]
        simp only [esc2, hex_backN (show b.toNat / 16 < 16 by omega), hex_backN (show b.toNat % 16 < 16 by omega)]
        rw [if_neg (by omega), show 16 * (b.toNat / 16) + b.toNat % 16 = b.toNat by omega, UInt8.ofNat_toNat]
      show readS (92 :: 120 :: hexL (b.toNat / 16) :: hexL (b.toNat % 16) :: rest) 0 = _
      rw [readS, if_neg (by decide), if_pos rfl, he]
      dsimp only
      rw [readS, readS, readS, h]
      rfl
    · rw [if_neg h2]
      show readS (b :: rest) 0 = _
      rw [readS, if_neg (fun e => h1 (.inl e)), if_neg (fun e => h1 (.inr e)), if_neg h2, h]
      rfl
theorem readS_all (more : Bs) : ∀ s : Bs, readS (s.flatMap escOf ++ 34 :: more) 0 = some (s, (s.flatMap escOf).length + 1)
  | [] => rfl
  | b :: s => by
    rw [List.flatMap_cons, List.append_assoc, readS_step (readS_all more s), List.length_append]
    congr 2
    omega
theorem read_quoted (s more : Bs) : readF (quotedF s ++ more) = some (s, (quotedF s).length) := by
  have e : quotedF s ++ more = 34 :: (s.flatMap escOf ++ 34 :: more) := by
    unfold quotedF
    simp
  rw [e, readF, if_pos rfl, readS_all]
  unfold quotedF
  simp
theorem esc_len (b : UInt8) : 1 ≤ (escOf b).length ∧ (escOf b).length ≤ 4 := by
  unfold escOf
  split
  · simp
  · split <;> simp
theorem flat_esc_len : ∀ s : Bs, (s.flatMap escOf).length ≤ 4 * s.length
  | [] => Nat.le_refl _
  | b :: s => by
    have := flat_esc_len s
    have := (esc_len b).2
    rw [List.flatMap_cons, List.length_append, List.length_cons]
    omega
theorem quoted_len (s : Bs) : (quotedF s).length ≤ 4 * s.length + 2 := by
  have := flat_esc_len s
  unfold quotedF
  simp only [List.length_cons, List.length_append, List.length_nil]
  omega
end Go.Proofs.YtmcmicgdkdbgjaaDoor
