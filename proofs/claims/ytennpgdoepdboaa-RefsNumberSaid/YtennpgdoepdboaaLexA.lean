/- Layer 7: Find, upTo, quoted, quote, angle: walked. -/
import Derived.Test.YtennpgdoepdboaaLexQ
import Derived.Test.YtennpgdoepdboaaBlk
import Derived.Test.YtennpgdoepdboaaRun
namespace Go.Proofs.Ytennpgdoepdboaa
open Go.RowKit
attribute [local go_sem ↓] Go.wp_at_zero Go.wp_at_succ

/-- Where it was found. -/
def findR (fr : Nat) : Option Nat → Int × Bool
  | some k => (((fr + k : Nat) : Int), true)
  | none => (0, false)
theorem find_any (A : Option Addr) (n c : Nat) (l : List Int) (fr : Nat) (s : ByteArray) (w : World) (h : Sl w 1 A n c (l.map (Value.int .i32))) (hs : 0 < s.size) (hb : s.size ≤ 1000) (hn : n ≤ 1000000) (hfr : fr ≤ n)
    (hasc : ∀ x ∈ strI s, x < 128) :
    Calls Try.prog 75 #[.slice A n c, .int .i64 fr, .int .i64 n, .string s] w fun e w' => e = .returned (.tuple #[.int .i64 (findR fr (findF (strI s) (l.drop fr))).1, .bool (findR fr (findF (strI s) (l.drop fr))).2]) ∧ Kept w w' := by
  have hcap := h.cap
  have hmax := h.max
  have hl := h.llen1
  have d0 : decide ((fr : Int) < 0) = false := by simp
  have d1 : decide ((n : Int) < 0) = false := by simp
  have d2 : decide (n < fr) = false := by simp; omega
  have d3 : decide (n < n) = false := by simp
  have ws : IntKind.i64.wrap ((n : Int) - s.size) = (n : Int) - s.size := IntWalk.i64_in _ (by omega)
  have hst := fun k w' (hk : Kept w w') (hle : k ≤ n) => starts_any A n c l k s w' (h.kept hk) hs hb hn (by omega) hasc
  have HST := Lib.hid hst
  have HL := Lib.hid hl
  have HLS := Lib.hid (strI_len s)
  clear hst hasc
  obtain ⟨F, hF⟩ : ∃ F, findF (strI s) (l.drop fr) = F := ⟨_, rfl⟩
  rw [hF]
  go_enter Try.func75, Try.ntmps75
  go_wp2_with fail
  go_loopw [10] (fun i wr => ∃ k : Nat, fr + k ≤ n + 1 ∧ i = .int .i64 ((fr + k : Nat) : Int) ∧ Kept w wr ∧ Hid (F = (findF (strI s) (l.drop (fr + k))).map (· + k))) (fun i _ => (n + 1) - (intOf i).toNat)
  case atStart => exact ⟨0, by omega, rfl, Kept.refl _, by unfold Hid; rw [← hF]; simp⟩
  case round =>
    obtain ⟨k, hk, rfl, hkept, hinv⟩ := hrel
    by_cases hlt : fr + k + s.size ≤ n
    · have d4 : decide (((fr + k : Nat) : Int) ≤ (n : Int) - s.size) = true := by simp; omega
      go_wp2_with fail
      refine (HST.out (fr + k) _ hkept (by omega)).mono ?_
      rintro e w1 ⟨rfl, hk1⟩
      have hk2 := hkept.trans hk1
      cases hb : startsF (strI s) (l.drop (fr + k))
      · go_wp2_with fail
        go_roundw
        case rel => exact ⟨k + 1, by omega, by go_num, hk2, by
          unfold Hid
          have hx : l[fr + k]? = some (l[fr + k]'(by have := HL.out; omega)) := List.getElem?_eq_getElem _
          rw [hinv.out, findF_step hx hb, Option.map_map]
          congr 1
          funext z
          simp
          omega⟩
        case measure => simp [intOf]; omega
      · go_wp2_with fail
        go_ret2
        refine ⟨?_, hk2⟩
        rw [hinv.out, findF_hit hb]
        simp [findR]
    · have d4 : decide (((fr + k : Nat) : Int) ≤ (n : Int) - s.size) = false := by simp; omega
      go_wp2_with fail
      go_ret2
      refine ⟨?_, hkept⟩
      rw [hinv.out, findF_short (by rw [HLS.out, List.length_drop, HL.out]; omega)]
      rfl

/-- A token as it is given. -/
def tkV (t : Tok) (a : Nat) : Value := .agg #[.int .i64 t.kind, .int .i64 a, .int .i64 ((a : Int) + t.to), .bool t.whole]
theorem upTo_any (A : Option Addr) (n c : Nat) (l : List Int) (kind : Int) (a skip : Nat) (s : ByteArray) (w : World) (h : Sl w 1 A n c (l.map (Value.int .i32))) (hs : 0 < s.size) (hb : s.size ≤ 1000) (hn : n ≤ 1000000) (hfr : a + skip ≤ n)
    (hasc : ∀ x ∈ strI s, x < 128) :
    Calls Try.prog 64 #[.slice A n c, .int .i64 kind, .int .i64 a, .int .i64 skip, .string s] w fun e w' => e = .returned (tkV (upToF kind skip (strI s) (l.drop a)) a) ∧ Kept w w' := by
  have hcap := h.cap
  have hmax := h.max
  have hl := h.llen1
  have ws : IntKind.i64.wrap ((a : Int) + skip) = ((a + skip : Nat) : Int) := by rw [IntWalk.i64_in _ (by omega)]; omega
  have d0 : decide (n < a + skip) = false := by simp; omega
  have d1 : decide ((n : Int) < (a : Int) + skip) = false := by simp; omega
  have hf := fun w' (hk : Kept w w') => find_any A n c l (a + skip) s w' (h.kept hk) hs hb hn (by omega) hasc
  have HLS := Lib.hid (strI_len s)
  have hle := fun k => findF_le (p := strI s) (s := l.drop (a + skip)) (k := k)
  have hU : upToF kind skip (strI s) (l.drop a) = match findF (strI s) (l.drop (a + skip)) with
    | some k => ⟨kind, skip + k + s.size, true⟩
    | none => ⟨kind, n - a, false⟩ := by
    unfold upToF
    rw [List.drop_drop, List.length_drop, hl, strI_len, Nat.min_eq_left (by omega)]
    rfl
  rw [hU]
  clear hU
  rw [List.length_drop, strI_len, hl] at hle
  generalize findF (strI s) (l.drop (a + skip)) = F at hf hle ⊢
  have HF := Lib.hid hf
  clear hf hasc
  have hk0 : Kept w (w.alloc (.cells #[.int .i64 0, .int .i64 0, .int .i64 0, .bool false] 54)) := (Kept.refl _).alloc _
  have B0 := Blk.new w #[.int .i64 0, .int .i64 0, .int .i64 0, .bool false] 54
  go_enter Try.func64, Try.ntmps64
  go_wp2_with fail
  generalize w.alloc (.cells #[.int .i64 0, .int .i64 0, .int .i64 0, .bool false] 54) = w1 at hk0 B0 ⊢
  refine (HF.out _ hk0).mono ?_
  rintro e w2 ⟨rfl, k2⟩
  have hk2 := hk0.trans k2
  have B2 := B0.kept k2
  have f9 := B2.cell
  have g9 := B2.frozen
  clear k2 B0 hk0
  cases F with
  | none =>
    simp only [findR]
    go_wp2_with fail
    refine bodyPost_ret (v := .agg #[.int .i64 kind, .int .i64 a, .int .i64 n, .bool false]) ?_ rfl ⟨?_, ?_⟩
    · simp [results, Try.results64, go_sem, f9]
    · have e1 : (a : Int) + ((n - a : Nat) : Int) = n := by omega
      simp [tkV, e1]
    · repeat (first | (with_reducible exact hk2) | (with_reducible refine Kept.setCell ?_ (by simp; try omega) _))
  | some k =>
    simp only [findR]
    have hle2 := hle k rfl
    have ws2 : IntKind.i64.wrap (((a + skip + k : Nat) : Int) + s.size) = ((a + skip + k : Nat) : Int) + s.size := IntWalk.i64_in _ (by omega)
    go_wp2_with fail
    refine bodyPost_ret (v := .agg #[.int .i64 kind, .int .i64 a, .int .i64 (((a + skip + k : Nat) : Int) + s.size), .bool true]) ?_ rfl ⟨?_, ?_⟩
    · simp [results, Try.results64, go_sem, f9]
    · have e1 : ((a + skip + k : Nat) : Int) + s.size = (a : Int) + ((skip + k + s.size : Nat) : Int) := by omega
      simp only [tkV]
      rw [e1]
    · repeat (first | (with_reducible exact hk2) | (with_reducible refine Kept.setCell ?_ (by simp; try omega) _))

/-- Behind the quote that closes; or the end. -/
def quoR (n a : Nat) : Option Nat → Int × Bool
  | some k => (((a + k + 2 : Nat) : Int), true)
  | none => ((n : Int), false)
theorem quoted_any (A : Option Addr) (n c : Nat) (l : List Int) (a : Nat) (x : Int) (w : World) (h : Sl w 1 A n c (l.map (Value.int .i32))) (hn : n ≤ 1000000) (hx : l[a]? = some x) :
    Calls Try.prog 77 #[.slice A n c, .int .i64 a] w fun e w' => e = .returned (.tuple #[.int .i64 (quoR n a (closeF x (l.drop (a + 1)))).1, .bool (quoR n a (closeF x (l.drop (a + 1)))).2]) ∧ Kept w w' := by
  have hcap := h.cap
  have hmax := h.max
  have HL := Lib.hid h.llen1
  have ha : a < n := by
    have := (List.getElem?_eq_some_iff.1 hx).1
    have := HL.out
    omega
  obtain ⟨b, o, x', rfl, hx', hc, hbb⟩ := h.oneb (k := a) ha
  obtain rfl : x' = x := by rw [hx] at hx'; injection hx' with hx'; exact hx'.symm
  clear hx' hx
  obtain ⟨F, hF⟩ : ∃ F, closeF x' (l.drop (a + 1)) = F := ⟨_, rfl⟩
  rw [hF]
  go_enter Try.func77, Try.ntmps77
  go_wp2_with fail
  go_loopw [6] (fun i wr => ∃ k : Nat, a + 1 + k ≤ n ∧ i = .int .i64 ((a + 1 + k : Nat) : Int) ∧ (∃ q, wr = w.drewN q) ∧ Hid (F = (closeF x' (l.drop (a + 1 + k))).map (· + k))) (fun i _ => n - (intOf i).toNat)
  case atStart => exact ⟨0, by omega, by go_num, ⟨0, rfl⟩, by unfold Hid; rw [← hF]; simp⟩
  case round =>
    obtain ⟨k, hk, rfl, ⟨q, rfl⟩, hinv⟩ := hrel
    by_cases hlt : a + 1 + k < n
    · obtain ⟨b2, o2, y, hA, hy, hcy, hby⟩ := h.oneb (k := a + 1 + k) hlt
      injection hA with hA
      injection hA with hA1 hA2
      subst hA1 hA2
      have HY := Lib.hid hy
      clear hy
      by_cases hxe : y = x'
      · have g2 : (y == x') = true := by simpa using hxe
        have HE := Lib.hid hxe
        clear hxe
        go_wp2_with fail
        go_quiet (fail)
        go_wp2_with fail
        go_ret2
        refine ⟨?_, by repeat (first | (with_reducible exact Kept.refl _) | (with_reducible refine Kept.drewN ?_ _) | (with_reducible refine Kept.drew ?_))⟩
        rw [hinv.out, closeF_yes (HE.out ▸ HY.out)]
        simp only [Option.map, quoR]
        rw [show ((a + (0 + k) + 2 : Nat) : Int) = (a : Int) + 1 + k + 1 by omega]
        rfl
      · have g2 : (y == x') = false := by simpa using hxe
        have HE := Lib.hid hxe
        clear hxe
        go_wp2_with fail
        go_quiet (fail)
        go_wp2_with fail
        go_roundw
        case rel => exact ⟨k + 1, by omega, by go_num, ⟨_, rfl⟩, by
          unfold Hid
          rw [hinv.out, closeF_no HY.out HE.out, Option.map_map]
          congr 1
          funext z
          simp
          omega⟩
        case measure => simp [intOf]; omega
    · go_wp2_with fail
      go_ret2
      refine ⟨?_, (Kept.refl _).drewN _⟩
      rw [hinv.out, closeF_end (by have := HL.out; omega)]
      rfl
theorem quote_any (x : Int) (w : World) : Calls Try.prog 76 #[.int .i32 x] w fun e w' => e = .returned (.bool (isQuote x)) ∧ w = w' := by
  unfold isQuote
  by_cases h1 : x = 34
  · subst h1
    go_enter Try.func76, Try.ntmps76
    go_wp2_with fail
    go_ret
    exact ⟨rfl, rfl⟩
  · have d1 : (x == 34) = false := by simpa using h1
    go_enter Try.func76, Try.ntmps76
    go_wp2_with fail
    go_ret
    exact ⟨by simp [d1], rfl⟩

theorem angle_any (A : Option Addr) (n c : Nat) (l : List Int) (a : Nat) (st : Bool) (w : World) (h : Sl w 1 A n c (l.map (Value.int .i32))) (hn : n ≤ 1000000) (ha : a ≤ n) :
    Calls Try.prog 81 #[.slice A n c, .int .i64 a, .bool st] w fun e w' => e = .returned (.tuple #[.int .i64 ((a + (angleF st 0 (l.drop a)).1 : Nat) : Int), .bool (angleF st 0 (l.drop a)).2]) ∧ Kept w w' := by
  have hcap := h.cap
  have hmax := h.max
  have hl := h.llen1
  have hq := fun m x w' (hk : Kept w w') (hx : l[m]? = some x) => quoted_any A n c l m x w' (h.kept hk) hn hx
  have HQ := Lib.hid hq
  have HL := Lib.hid hl
  clear hq
  obtain ⟨F, hF⟩ : ∃ F, angleF st 0 (l.drop a) = F := ⟨_, rfl⟩
  rw [hF]
  go_enter Try.func81, Try.ntmps81
  go_wp2_with fail
  go_loopw [1] (fun i wr => ∃ k : Nat, a + k ≤ n ∧ i = .int .i64 ((a + k : Nat) : Int) ∧ Kept w wr ∧ Hid (F = shiftF k (angleF st 0 (l.drop (a + k))))) (fun i _ => n - (intOf i).toNat)
  case atStart => exact ⟨0, by omega, rfl, Kept.refl _, by unfold Hid; rw [← hF]; simp [shiftF]⟩
  case round =>
    obtain ⟨k, hk, rfl, hkept, hinv⟩ := hrel
    by_cases hlt : a + k < n
    · obtain ⟨b, o, x, rfl, hx, hc, hbb⟩ := (h.kept hkept).oneb (k := a + k) hlt
      have HX := Lib.hid hx
      clear hx
      cases hqx : isQuote x
      · by_cases h62 : x = 62
        · subst h62
          go_wp2_with fail
          refine (quote_any _ _).mono ?_
          rintro e w1 ⟨rfl, rfl⟩
          rw [hqx]
          go_wp2_with fail
          go_ret2
          refine ⟨?_, hkept⟩
          rw [hinv.out, angleF_gt HX.out]
          simp [shiftF]
        · have g1 : (x == 62) = false := by simpa using h62
          cases h60 : x == 60 && st
          · have HON := Lib.hid (angleF_on HX.out hqx h62 h60)
            cases h60b : x == 60
            · go_wp2_with fail
              refine (quote_any _ _).mono ?_
              rintro e w1 ⟨rfl, rfl⟩
              rw [hqx]
              go_wp2_with fail
              go_roundw
              case rel => exact ⟨k + 1, by omega, by go_num, hkept, by unfold Hid; rw [hinv.out, HON.out, shiftF_shiftF, Nat.add_assoc a k 1, Nat.add_comm 1 k]⟩
              case measure => simp [intOf]; omega
            · obtain rfl : st = false := by rw [h60b] at h60; simpa using h60
              go_wp2_with fail
              refine (quote_any _ _).mono ?_
              rintro e w1 ⟨rfl, rfl⟩
              rw [hqx]
              go_wp2_with fail
              go_roundw
              case rel => exact ⟨k + 1, by omega, by go_num, hkept, by unfold Hid; rw [hinv.out, HON.out, shiftF_shiftF, Nat.add_assoc a k 1, Nat.add_comm 1 k]⟩
              case measure => simp [intOf]; omega
          · obtain ⟨h60a, rfl⟩ := Bool.and_eq_true_iff.1 h60
            obtain rfl : x = 60 := by simpa using h60a
            go_wp2_with fail
            refine (quote_any _ _).mono ?_
            rintro e w1 ⟨rfl, rfl⟩
            rw [hqx]
            go_wp2_with fail
            go_ret2
            refine ⟨?_, hkept⟩
            rw [hinv.out, angleF_lt HX.out]
            simp [shiftF]
      · go_wp2_with fail
        refine (quote_any _ _).mono ?_
        rintro e w1 ⟨rfl, rfl⟩
        rw [hqx]
        go_wp2_with fail
        refine (HQ.out (a + k) x _ hkept HX.out).mono ?_
        rintro e w2 ⟨rfl, hk2⟩
        have hk3 := hkept.trans hk2
        cases hcl : closeF x (l.drop (a + k + 1)) with
        | none =>
          have HO := Lib.hid (angleF_open (st := st) HX.out hqx hcl)
          simp only [quoR]
          go_wp2_with fail
          go_roundw
          case rel => exact ⟨n - a, by omega, by congr 1; omega, hk3, by
            unfold Hid
            have := HL.out
            rw [hinv.out, HO.out, angleF_end (by omega)]
            simp [shiftF]
            omega⟩
          case measure => simp [intOf]; omega
        | some j =>
          have HO := Lib.hid (angleF_quote (st := st) HX.out hqx hcl)
          have hj := closeF_lt hcl
          rw [List.length_drop, HL.out] at hj
          simp only [quoR]
          go_wp2_with fail
          go_roundw
          case rel => exact ⟨k + (j + 2), by omega, by congr 1; omega, hk3, by
            unfold Hid
            rw [hinv.out, HO.out, shiftF_shiftF, Nat.add_assoc a k (j + 2), Nat.add_comm (j + 2) k]⟩
          case measure => simp [intOf]; omega
    · go_wp2_with fail
      go_ret2
      refine ⟨?_, hkept⟩
      have := HL.out
      rw [hinv.out, angleF_end (by omega), show a + k = n by omega]
      simp [shiftF]
      omega
end Go.Proofs.Ytennpgdoepdboaa
