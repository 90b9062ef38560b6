/- The reference's parts of layer 8, walked. -/
import Derived.Test.YtbebmmohambngaaTagV
namespace Go.Proofs.Ytbebmmohambngaa
open Go.RowKit

theorem start_nchar {r : Int} (h : nameStart r = true) : nameChar r = true := by simp [nameChar, h]
theorem leadF_yes {l : List Int} {k : Nat} {x : Int} (h : l[k]? = some x) (hs : nameStart x = true) : leadF (l.drop k) = 1 + runF nameChar (l.drop (k + 1)) := by
  rw [← runF_yes h (start_nchar hs), leadF, drop_get h]
  simp [hs]
theorem leadF_no {l : List Int} {k : Nat} {x : Int} (h : l[k]? = some x) (hs : nameStart x = false) : leadF (l.drop k) = 0 := by
  rw [leadF, drop_get h]
  simp [hs]
theorem leadF_end {l : List Int} {k : Nat} (h : l.length ≤ k) : leadF (l.drop k) = 0 := by
  rw [List.drop_eq_nil_of_le h]
  rfl

theorem rlead_any (A : Option Addr) (n c : Nat) (l : List Int) (fr : Int) (w : World) (h : Sl w 1 A n c (l.map (Value.int .i32))) (h0 : 0 ≤ fr) :
    Calls Try.prog 27 #[.slice A n c, .int .i64 fr] w fun e w' => e = .returned (.int .i64 (leadF (l.drop fr.toNat))) ∧ Kept w w' := by
  have hmax := h.max
  have hcap := h.cap
  have HL := Lib.hid h.llen1
  obtain ⟨k, rfl⟩ := Int.eq_ofNat_of_zero_le h0
  rw [Int.toNat_natCast]
  by_cases hlt : k < n
  · obtain ⟨b, o, x, rfl, hx, hc, hb⟩ := h.oneb hlt
    cases hs : nameStart x
    · have HV := Lib.hid (leadF_no hx hs)
      clear hx
      go_enter Try.func27, Try.ntmps27
      go_wp2_with fail
      refine (rnameStart_any x _).mono ?_
      rintro e w1 ⟨rfl, rfl⟩
      go_wp2
      go_ret
      exact ⟨ret_int (by rw [HV.out]; rfl), Kept.refl _⟩
    · have HV := Lib.hid (leadF_yes hx hs)
      clear hx
      have d1 : decide ((k : Int) < 0) = false := by simp
      have d2 : decide (n ≤ k) = false := by simp; omega
      go_enter Try.func27, Try.ntmps27
      go_wp2_with fail
      refine (rnameStart_any x _).mono ?_
      rintro e w1 ⟨rfl, rfl⟩
      go_wp2_with fail
      go_loopw [5] (fun i wr => ∃ m : Nat, 1 ≤ m ∧ k + m ≤ n ∧ i = .int .i64 m ∧ Kept w wr ∧ Hid (leadF (l.drop k) = m + runF nameChar (l.drop (k + m)))) (fun i _ => n - (intOf i).toNat)
      case atStart => exact ⟨1, Nat.le_refl _, by omega, rfl, Kept.refl _, by unfold Hid; rw [HV.out]⟩
      case round =>
        obtain ⟨m, hm1, hm, rfl, hkept, hinv⟩ := hrel
        by_cases hlt1 : k + m < n
        · obtain ⟨b2, o2, y, hA, hy, hcy, hby⟩ := (h.kept hkept).oneb (k := k + m) hlt1
          injection hA with hA
          injection hA with hA1 hA2
          subst hA1 hA2
          have HY := Lib.hid hy
          clear hy
          cases hp : nameChar y
          · go_wp2_with fail
            refine (rnameChar_any y _).mono ?_
            rintro e w1 ⟨rfl, rfl⟩
            go_wp2
            go_ret
            exact ⟨ret_int (by rw [hinv.out, runF_no HY.out hp]; rfl), hkept⟩
          · go_wp2_with fail
            refine (rnameChar_any y _).mono ?_
            rintro e w1 ⟨rfl, rfl⟩
            go_wp2
            go_roundw
            case rel => exact ⟨m + 1, by omega, by omega, by go_num, hkept, by unfold Hid; rw [hinv.out, runF_yes HY.out hp, Nat.add_assoc k m 1]; omega⟩
            case measure => simp [intOf]; omega
        · go_wp2
          go_ret
          have := HL.out
          exact ⟨ret_int (by rw [hinv.out, runF_end (by omega)]; rfl), hkept⟩
  · have HV : Hid (leadF (l.drop k) = 0) := by
      have := HL.out
      exact leadF_end (by omega)
    go_enter Try.func27, Try.ntmps27
    go_wp2_with fail
    go_ret
    exact ⟨ret_int (by rw [HV.out]; rfl), Kept.refl _⟩
/-- A place, or -1. -/
def quoN (c : Nat) : Int := if c = 0 then -1 else c
theorem rquoted_any (A : Option Addr) (n c : Nat) (l : List Int) (k T : Nat) (x : Int) (w : World) (h : Sl w 1 A n c (l.map (Value.int .i32))) (hkT : k < T) (hT : T ≤ n) (hx : l[k]? = some x) (hn : n ≤ 1000000) :
    Calls Try.prog 28 #[.slice A n c, .int .i64 k, .int .i64 T] w fun e w' => e = .returned (.int .i64 (quoN (closeN x (l.take T) (k + 1)))) ∧ Kept w w' := by
  have hmax := h.max
  have hcap := h.cap
  have HL := Lib.hid h.llen1
  obtain ⟨b, o, x', rfl, hx', hc, hb⟩ := h.oneb (k := k) (by omega)
  obtain rfl : x = x' := by rw [hx] at hx'; simpa using hx'
  clear hx hx'
  go_enter Try.func28, Try.ntmps28
  go_wp2_with fail
  go_loopw [7] (fun i wr => ∃ m : Nat, k + 1 ≤ m ∧ m ≤ T ∧ i = .int .i64 m ∧ (∃ q, wr = w.drewN q) ∧ Hid (closeN x (l.take T) (k + 1) = closeN x (l.take T) m)) (fun i _ => T - (intOf i).toNat)
  case atStart => exact ⟨k + 1, Nat.le_refl _, by omega, by go_num, ⟨0, rfl⟩, rfl⟩
  case round =>
    obtain ⟨m, hm1, hm, rfl, ⟨q, rfl⟩, hinv⟩ := hrel
    by_cases hlt : m < T
    · obtain ⟨b2, o2, y, hA, hy, hcy, hby⟩ := h.oneb (k := m) (by omega)
      injection hA with hA
      injection hA with hA1 hA2
      subst hA1 hA2
      have HY : Hid ((l.take T)[m]? = some y) := by unfold Hid; rw [List.getElem?_take_of_lt hlt]; exact hy
      clear hy
      by_cases hxy : y = x
      · have e1 : (y == x) = true := by simpa using hxy
        have HE := Lib.hid (hxy ▸ HY.out : (l.take T)[m]? = some x)
        clear hxy
        go_wp2_with fail
        go_quiet (fail)
        go_wp2
        go_ret
        exact ⟨ret_int (by rw [hinv.out, closeN_yes HE.out, quoN, if_neg (by omega)]; rfl), (by repeat (first | exact Kept.refl _ | refine Kept.drewN ?_ _))⟩
      · have e1 : (y == x) = false := by simpa using hxy
        have HE := Lib.hid (closeN_no HY.out hxy)
        clear hxy
        go_wp2_with fail
        go_quiet (fail)
        go_wp2
        go_roundw
        case rel => exact ⟨m + 1, by omega, by omega, by go_num, ⟨_, rfl⟩, by unfold Hid; rw [hinv.out, HE.out]⟩
        case measure => simp [intOf]; omega
    · go_wp2
      go_ret
      have := HL.out
      exact ⟨ret_int (by rw [hinv.out, closeN_end (by simp; omega)]; rfl), (Kept.refl _).drewN _⟩
/-- What the reference's part at a place is. -/
theorem part1_step {l : List Int} {k T : Nat} {x : Int} (hx : l[k]? = some x) (hkT : k < T) : (l.take T)[k]? = some x := by rw [List.getElem?_take_of_lt hkT]; exact hx
theorem closeN_drop {q : Int} {L : List Int} {k : Nat} : (if closeN q L (k + 1) = 0 then 0 else closeN q L (k + 1) - k) = closeN q (L.drop k) 1 := by
  unfold closeN
  rw [List.drop_drop]
  cases closeF q (L.drop (k + 1)) <;> simp
  omega

theorem starts_head {a x : Int} {p s : List Int} (h : startsF (a :: p) s = true) (hx : s.head? = some x) : x = a := by
  cases s with
  | nil => cases hx
  | cons y s =>
    simp at hx
    subst hx
    rw [startsF_cons] at h
    have := (Bool.and_eq_true_iff.1 h).1
    simp at this
    exact this.symm
theorem two_get {L : List Int} {k : Nat} {x : Int} (h : L[k]? = some x) (hs : L.drop k = [47, 62]) : L[k + 1]? = some 62 := by
  have : (L.drop k)[1]? = some 62 := by rw [hs]; rfl
  rwa [List.getElem?_drop] at this
theorem two_not {L : List Int} {k : Nat} {x : Int} (h : L[k]? = some x) (hl : L.length = k + 2) (hs : ¬ ((L.drop k == [47, 62] || L.drop k == [62]) = true)) :
    ∃ y, L[k + 1]? = some y ∧ ((x == 47) = false ∨ ((x == 47) = true ∧ (y == 62) = false)) := by
  have hy : L[k + 1]? = some L[k + 1] := List.getElem?_eq_getElem (by omega)
  generalize L[k + 1] = y at hy
  refine ⟨y, hy, ?_⟩
  have hd : L.drop k = [x, y] := by
    rw [drop_get h, drop_get hy, List.drop_eq_nil_of_le (by omega)]
  rw [hd] at hs
  by_cases h1 : x = 47
  · refine .inr ⟨by simpa using h1, ?_⟩
    have : ¬ y = 62 := by
      intro h2
      subst h1 h2
      exact hs rfl
    simpa using this
  · exact .inl (by simpa using h1)
theorem quote_not {x : Int} {S : List Int} (hq : isQuote x = true) (hh : S.head? = some x) (e : (S == [47, 62] || S == [62]) = true) : False := by
  have : S = [47, 62] ∨ S = [62] := by simpa using e
  rcases this with rfl | rfl
  · simp at hh
    subst hh
    cases hq
  · simp at hh
    subst hh
    cases hq
theorem closeN_ge (q : Int) (L : List Int) (k : Nat) : closeN q L k = 0 ∨ k < closeN q L k := by
  unfold closeN
  split
  · exact .inr (by omega)
  · exact .inl rfl
end Go.Proofs.Ytbebmmohambngaa
