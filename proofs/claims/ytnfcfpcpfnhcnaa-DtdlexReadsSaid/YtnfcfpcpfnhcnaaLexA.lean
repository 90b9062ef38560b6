/- Layer 7: Find, upTo, quoted, quote, angle: walked. -/
import Derived.Test.YtnfcfpcpfnhcnaaLexQ
import Derived.Test.YtnfcfpcpfnhcnaaBlk
import Derived.Test.YtnfcfpcpfnhcnaaRun
namespace Go.Proofs.Ytnfcfpcpfnhcnaa
open Go.RowKit
attribute [local go_sem ↓] Go.wp_at_zero Go.wp_at_succ

/-- Where it was found. -/
def findR (fr : Nat) : Option Nat → Int × Bool
  | some k => (((fr + k : Nat) : Int), true)
  | none => (0, false)
theorem find_any (A : Option Addr) (n c : Nat) (l : List Int) (fr : Nat) (s : ByteArray) (w : World) (h : Sl w 1 A n c (l.map (Value.int .i32))) (hs : 0 < s.size) (hb : s.size ≤ 1000) (hn : n ≤ 1000000) (hfr : fr ≤ n)
    (hasc : ∀ x ∈ strI s, x < 128) :
    Calls Try.prog 60 #[.slice A n c, .int .i64 fr, .int .i64 n, .string s] w fun e w' => e = .returned (.tuple #[.int .i64 (findR fr (findF (strI s) (l.drop fr))).1, .bool (findR fr (findF (strI s) (l.drop fr))).2]) ∧ Kept w w' := by
  have hcap := h.cap
  have hmax := h.max
  have hl := h.llen1
  have d0 : decide ((fr : Int) < 0) = false := by simp
  have d1 : decide ((n : Int) < 0) = false := by simp
  have d2 : decide (n < fr) = false := by simp; omega
  have d3 : decide (n < n) = false := by simp
  have ws : IntKind.i64.wrap ((n : Int) - s.size) = (n : Int) - s.size := IntWalk.i64_in _ (by omega)
  have hst := fun k w' (hk : Kept w w') (hle : k ≤ n) => starts_any A n c l k s w' (h.kept hk) hs hb hn (by omega) hasc
  have HST := Lib.hid hst
  have HL := Lib.hid hl
  have HLS := Lib.hid (strI_len s)
  clear hst hasc
  obtain ⟨F, hF⟩ : ∃ F, findF (strI s) (l.drop fr) = F := ⟨_, rfl⟩
  rw [hF]
  go_enter Try.func60, Try.ntmps60
  go_wp2_with fail
  go_loopw [10] (fun i wr => ∃ k : Nat, fr + k ≤ n + 1 ∧ i = .int .i64 ((fr + k : Nat) : Int) ∧ Kept w wr ∧ Hid (F = (findF (strI s) (l.drop (fr + k))).map (· + k))) (fun i _ => (n + 1) - (intOf i).toNat)
  case atStart => exact ⟨0, by omega, rfl, Kept.refl _, by unfold Hid; rw [← hF]; simp⟩
  case round =>
    obtain ⟨k, hk, rfl, hkept, hinv⟩ := hrel
    by_cases hlt : fr + k + s.size ≤ n
    · have d4 : decide (((fr + k : Nat) : Int) ≤ (n : Int) - s.size) = true := by simp; omega
      go_wp2_with fail
      refine (HST.out (fr + k) _ hkept (by omega)).mono ?_
      rintro e w1 ⟨rfl, hk1⟩
      have hk2 := hkept.trans hk1
      cases hb : startsF (strI s) (l.drop (fr + k))
      · go_wp2_with fail
        go_roundw
        case rel => exact ⟨k + 1, by omega, by go_num, hk2, by
          unfold Hid
          have hx : l[fr + k]? = some (l[fr + k]'(by have := HL.out; omega)) := List.getElem?_eq_getElem _
          rw [hinv.out, findF_step hx hb, Option.map_map]
          congr 1
          funext z
          simp
          omega⟩
        case measure => simp [intOf]; omega
      · go_wp2_with fail
        go_ret2
        refine ⟨?_, hk2⟩
        rw [hinv.out, findF_hit hb]
        simp [findR]
    · have d4 : decide (((fr + k : Nat) : Int) ≤ (n : Int) - s.size) = false := by simp; omega
      go_wp2_with fail
      go_ret2
      refine ⟨?_, hkept⟩
      rw [hinv.out, findF_short (by rw [HLS.out, List.length_drop, HL.out]; omega)]
      rfl

/-- A token as it is given. -/
def tkV (t : Tok) (a : Nat) : Value := .agg #[.int .i64 t.kind, .int .i64 a, .int .i64 ((a : Int) + t.to), .bool t.whole]
/-- Behind the quote that closes; or the end. -/
def quoR (n a : Nat) : Option Nat → Int × Bool
  | some k => (((a + k + 2 : Nat) : Int), true)
  | none => ((n : Int), false)
end Go.Proofs.Ytnfcfpcpfnhcnaa
