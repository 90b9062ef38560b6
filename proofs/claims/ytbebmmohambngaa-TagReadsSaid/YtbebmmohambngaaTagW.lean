/- The parts of layer 8, walked. -/
import Derived.Test.YtbebmmohambngaaTagP
import Derived.Test.YtbebmmohambngaaStarts
namespace Go.Proofs.Ytbebmmohambngaa
open Go.RowKit

theorem closeF_yes {q : Int} {l : List Int} {k : Nat} (h : l[k]? = some q) : closeF q (l.drop k) = some 0 := by
  rw [drop_get h, closeF, List.findIdx?_cons]
  simp
theorem closeF_no {q x : Int} {l : List Int} {k : Nat} (h : l[k]? = some x) (hx : x ≠ q) : closeF q (l.drop k) = (closeF q (l.drop (k + 1))).map (· + 1) := by
  rw [drop_get h, closeF, List.findIdx?_cons, if_neg (by simpa using hx)]
  rfl
theorem closeF_end {q : Int} {l : List Int} {k : Nat} (h : l.length ≤ k) : closeF q (l.drop k) = none := by
  rw [List.drop_eq_nil_of_le h]
  rfl
def closeN (q : Int) (l : List Int) (k : Nat) : Nat := match closeF q (l.drop k) with | some j => k + j + 1 | none => 0
theorem closeN_yes {q : Int} {l : List Int} {k : Nat} (h : l[k]? = some q) : closeN q l k = k + 1 := by unfold closeN; rw [closeF_yes h]
theorem closeN_no {q x : Int} {l : List Int} {k : Nat} (h : l[k]? = some x) (hx : x ≠ q) : closeN q l k = closeN q l (k + 1) := by
  unfold closeN
  rw [closeF_no h hx]
  cases closeF q (l.drop (k + 1)) <;> simp
  omega
theorem closeN_end {q : Int} {l : List Int} {k : Nat} (h : l.length ≤ k) : closeN q l k = 0 := by unfold closeN; rw [closeF_end h]
theorem valueF_quote {l : List Int} {x : Int} (h : l[0]? = some x) (hq : isQuote x = true) : valueF l = closeN x l 1 := by
  have := drop_get h
  simp only [List.drop_zero] at this
  rw [this, valueF, if_pos hq]
  unfold closeN
  rw [← this]
  cases closeF x (l.drop (0 + 1)) <;> simp
  omega
theorem valueF_none {l : List Int} {x : Int} (h : l[0]? = some x) (hq : isQuote x = false) : valueF l = 0 := by
  have := drop_get h
  simp only [List.drop_zero] at this
  rw [this, valueF, if_neg (by simp [hq])]

theorem value_any (A : Option Addr) (n c : Nat) (l : List Int) (w : World) (h : Sl w 1 A n c (l.map (Value.int .i32))) (h0 : 0 < n) :
    Calls Try.prog 23 #[.slice A n c] w fun e w' => e = .returned (.int .i64 (valueF l)) ∧ Kept w w' := by
  have hcap := h.cap
  have hmax := h.max
  have HL := Lib.hid h.llen1
  obtain ⟨b, o, x, rfl, hx, hc, hb⟩ := h.oneb h0
  rw [Nat.add_zero] at hc
  cases hq : isQuote x
  · have HV := Lib.hid (valueF_none hx hq)
    have g1 : (x != 34) = true := by simp [isQuote] at hq; simpa using hq.1
    have g2 : (x != 39) = true := by simp [isQuote] at hq; simpa using hq.2
    clear hq hx
    go_enter Try.func23, Try.ntmps23
    go_wp2
    go_ret
    exact ⟨ret_int (by rw [HV.out]; rfl), Kept.refl _⟩
  · have HV := Lib.hid (valueF_quote hx hq)
    clear hx
    have g : (x != 34) = false ∨ ((x != 34) = true ∧ (x != 39) = false) := by
      simp [isQuote] at hq
      rcases hq with rfl | rfl
      · exact .inl rfl
      · exact .inr ⟨rfl, rfl⟩
    clear hq
    rcases g with g1 | ⟨g1, g2⟩
    all_goals
      go_enter Try.func23, Try.ntmps23
      go_wp2
      go_loopw [3] (fun i wr => ∃ k : Nat, 1 ≤ k ∧ k ≤ n ∧ i = .int .i64 k ∧ (∃ q, wr = w.drewN q) ∧ Hid (closeN x l 1 = closeN x l k)) (fun i _ => n - (intOf i).toNat)
      case atStart => exact ⟨1, by omega, by omega, rfl, ⟨0, rfl⟩, rfl⟩
      case round =>
        obtain ⟨k, hk1, hk, rfl, ⟨q, rfl⟩, hinv⟩ := hrel
        by_cases hlt : k < n
        · obtain ⟨b2, o2, y, hA, hy, hcy, hby⟩ := h.oneb (k := k) hlt
          injection hA with hA
          injection hA with hA1 hA2
          subst hA1 hA2
          have HY := Lib.hid hy
          clear hy
          by_cases hxy : y = x
          · have e1 : (y == x) = true := by simpa using hxy
            have HE := Lib.hid (hxy ▸ HY.out : l[k]? = some x)
            clear hxy
            go_wp2_with fail
            go_quiet (fail)
            go_wp2
            go_ret
            exact ⟨ret_int (by rw [HV.out, hinv.out, closeN_yes HE.out]; rfl), (by repeat (first | exact Kept.refl _ | assumption | refine Kept.drewN ?_ _ | refine Kept.drew ?_ | refine Kept.alloc ?_ _))⟩
          · have e1 : (y == x) = false := by simpa using hxy
            have HE := Lib.hid (closeN_no HY.out hxy)
            clear hxy
            go_wp2_with fail
            go_quiet (fail)
            go_wp2
            go_roundw
            case rel => exact ⟨k + 1, by omega, by omega, by go_num, ⟨_, rfl⟩, by unfold Hid; rw [hinv.out, HE.out]⟩
            case measure => simp [intOf]; omega
        · go_wp2
          go_ret
          have := HL.out
          exact ⟨ret_int (by rw [HV.out, hinv.out, closeN_end (by omega)]; rfl), (Kept.refl _).drewN _⟩
theorem starts_lit (A : Option Addr) (n c : Nat) (l : List Int) (at_ : Nat) (d : Array UInt8) (p : List Int) (w : World) (h : Sl w 1 A n c (l.map (Value.int .i32))) (hp : strI ⟨d⟩ = p ∧ 0 < p.length ∧ p.length ≤ 1000) (hn : n ≤ 1000000) (hat : at_ ≤ 2000000)
    (hasc : ∀ x ∈ p, x < 128) :
    Calls Try.prog 24 #[.slice A n c, .int .i64 at_, .string ⟨d⟩] w fun e w' => e = .returned (.bool (startsF p (l.drop at_))) ∧ Kept w w' := by
  obtain ⟨rfl, h1, h2⟩ := hp
  rw [strI_len] at h1 h2
  exact starts_any A n c l at_ ⟨d⟩ w h h1 h2 hn hat hasc
theorem rstarts_lit (A : Option Addr) (n c : Nat) (l : List Int) (at_ : Nat) (d : Array UInt8) (p : List Int) (w : World) (h : Sl w 1 A n c (l.map (Value.int .i32))) (hp : strI ⟨d⟩ = p ∧ 0 < p.length ∧ p.length ≤ 1000) (hn : n ≤ 1000000) (hat : at_ ≤ 2000000)
    (hasc : ∀ x ∈ p, x < 128) (hr : Rn l) :
    Calls Try.prog 25 #[.slice A n c, .int .i64 at_, .string ⟨d⟩] w fun e w' => e = .returned (.bool (startsF p (l.drop at_))) ∧ Kept w w' := by
  obtain ⟨rfl, h1, h2⟩ := hp
  rw [strI_len] at h1 h2
  exact rstarts_any A n c l at_ ⟨d⟩ w h h1 h2 hn hat hasc hr

theorem len_cases (l : List Int) {x : Int} (h : l.head? = some x) (h0 : 0 < l.length) :
    (l = [47, 62] ∧ l.length = 2 ∧ startsF [47, 62] l = true) ∨ (¬ ((l == [47, 62] || l == [62]) = true) ∧ l.length = 2 ∧ startsF [47, 62] l = false) ∨ (l = [62] ∧ l.length = 1 ∧ (x == 62) = true) ∨
    (¬ ((l == [47, 62] || l == [62]) = true) ∧ l.length = 1 ∧ (x == 62) = false) ∨ (¬ ((l == [47, 62] || l == [62]) = true) ∧ 2 < l.length) := by
  match l, h with
  | [y], h =>
    simp at h
    subst h
    by_cases hy : y = 62
    · subst hy
      exact .inr (.inr (.inl ⟨rfl, rfl, rfl⟩))
    · exact .inr (.inr (.inr (.inl ⟨by simpa using hy, rfl, by simpa using hy⟩)))
  | [y, z], h =>
    by_cases hy : y = 47 ∧ z = 62
    · obtain ⟨rfl, rfl⟩ := hy
      exact .inl ⟨rfl, rfl, rfl⟩
    · refine .inr (.inl ⟨by simpa using hy, rfl, ?_⟩)
      simp [startsF, List.isPrefixOf]
      intro h1 h2
      exact hy ⟨h1.symm, h2.symm⟩
  | y :: z :: t :: l, h => exact .inr (.inr (.inr (.inr ⟨by simp, by simp⟩)))

set_option maxHeartbeats 8000000 in
theorem piece_any (A : Option Addr) (n c : Nat) (l : List Int) (first : Bool) (w : World) (h : Sl w 1 A n c (l.map (Value.int .i32))) (h0 : 0 < n) (hn1 : n ≤ 1000000) :
    Calls Try.prog 13 #[.slice A n c, .bool first] w fun e w' => e = .returned (.tuple #[.int .i64 (pieceF l first).1, .int .i64 (pieceF l first).2]) ∧ Kept w w' := by
  have hcap := h.cap
  have hmax := h.max
  have HL := Lib.hid h.llen1
  obtain ⟨b, o, x, rfl, hx, hc, hb⟩ := h.oneb h0
  rw [Nat.add_zero] at hc
  have hhead : l.head? = some x := by rw [List.head?_eq_getElem?]; exact hx
  clear hx
  by_cases c1 : (first && startsF [60, 47] l) = true
  · have HV : Hid (pieceF l first = (1, 2)) := by unfold Hid pieceF; rw [if_pos c1]
    obtain ⟨rfl, c2⟩ := Bool.and_eq_true_iff.1 c1
    clear c1
    go_enter Try.func13, Try.ntmps13
    go_wp2_with fail
    refine (run_any _ isSpace (enters Try.func21 (by kernel_rfl) (by kernel_rfl)) (fun x w => (space_any x w).mono fun e w' ⟨he, hw⟩ => ⟨he, hw ▸ Kept.refl _⟩) _ _ _ l 0 _ h (by omega)).mono ?_
    rintro e w1 ⟨rfl, hk1⟩
    rw [List.drop_zero]
    go_wp2_with fail
    refine (lead_any _ _ _ l 0 _ (h.kept hk1) (by omega)).mono ?_
    rintro e w2 ⟨rfl, hk2⟩
    rw [show (0 : Int).toNat = 0 from rfl, List.drop_zero]
    go_wp2_with fail
    refine (value_any _ _ _ l _ ((h.kept hk1).kept hk2) h0).mono ?_
    rintro e w3 ⟨rfl, hk3⟩
    have HK := (hk1.trans hk2).trans hk3
    have hc := HK.cell hc
    clear hk1 hk2 hk3
    go_wp2_with fail
    refine (starts_lit _ _ _ l 0 #[60, 47] [60, 47] _ (h.kept HK) (by decide) hn1 (by omega) (by decide)).mono ?_
    rintro e w4 ⟨rfl, hk4⟩
    rw [List.drop_zero]
    have hc := hk4.cell hc
    have HK := HK.trans hk4
    clear hk4
    go_wp2
    go_ret2
    exact ⟨by rw [HV.out]; rfl, HK⟩
  by_cases c2 : (first && (l.head? == some 60)) = true
  · have HV : Hid (pieceF l first = (1, 1)) := by unfold Hid pieceF; rw [if_neg c1, if_pos c2]
    obtain ⟨rfl, c3⟩ := Bool.and_eq_true_iff.1 c2
    have c4 : startsF [60, 47] l = false := by simpa using c1
    obtain rfl : x = 60 := by simpa [hhead] using c3
    clear c1 c2 c3 hhead
    go_enter Try.func13, Try.ntmps13
    go_wp2_with fail
    refine (run_any _ isSpace (enters Try.func21 (by kernel_rfl) (by kernel_rfl)) (fun x w => (space_any x w).mono fun e w' ⟨he, hw⟩ => ⟨he, hw ▸ Kept.refl _⟩) _ _ _ l 0 _ h (by omega)).mono ?_
    rintro e w1 ⟨rfl, hk1⟩
    rw [List.drop_zero]
    go_wp2_with fail
    refine (lead_any _ _ _ l 0 _ (h.kept hk1) (by omega)).mono ?_
    rintro e w2 ⟨rfl, hk2⟩
    rw [show (0 : Int).toNat = 0 from rfl, List.drop_zero]
    go_wp2_with fail
    refine (value_any _ _ _ l _ ((h.kept hk1).kept hk2) h0).mono ?_
    rintro e w3 ⟨rfl, hk3⟩
    have HK := (hk1.trans hk2).trans hk3
    have hc := HK.cell hc
    clear hk1 hk2 hk3
    go_wp2_with fail
    refine (starts_lit _ _ _ l 0 #[60, 47] [60, 47] _ (h.kept HK) (by decide) hn1 (by omega) (by decide)).mono ?_
    rintro e w4 ⟨rfl, hk4⟩
    rw [List.drop_zero]
    have hc := hk4.cell hc
    have HK := HK.trans hk4
    clear hk4
    go_wp2
    go_ret2
    exact ⟨by rw [HV.out]; rfl, HK⟩
  have D : first = false ∨ (first = true ∧ startsF [60, 47] l = false ∧ (x == 60) = false) := by
    cases first
    · exact .inl rfl
    · refine .inr ⟨rfl, by simpa using c1, ?_⟩
      simpa [hhead] using c2
  have hE : (x == 61) = (l.head? == some 61) := by rw [hhead]; rfl
  have hV0 : pieceF l first = if 0 < runF isSpace l then (3, runF isSpace l) else if 0 < leadF l then (2, leadF l) else if l.head? == some 61 then (4, 1) else if 0 < valueF l then (5, valueF l) else if l == [47, 62] || l == [62] then (6, l.length) else (7, 1) := by
    rw [pieceF, if_neg c1, if_neg c2]
  clear c1 c2
  by_cases c3 : 0 < runF isSpace l
  · have HV : Hid (pieceF l first = (3, runF isSpace l)) := by unfold Hid; rw [hV0, if_pos c3]
    clear hV0 hE hhead
    rcases D with rfl | ⟨rfl, d1, d2⟩
    · go_enter Try.func13, Try.ntmps13
      go_wp2_with fail
      refine (run_any _ isSpace (enters Try.func21 (by kernel_rfl) (by kernel_rfl)) (fun x w => (space_any x w).mono fun e w' ⟨he, hw⟩ => ⟨he, hw ▸ Kept.refl _⟩) _ _ _ l 0 _ h (by omega)).mono ?_
      rintro e w1 ⟨rfl, hk1⟩
      rw [List.drop_zero]
      go_wp2_with fail
      refine (lead_any _ _ _ l 0 _ (h.kept hk1) (by omega)).mono ?_
      rintro e w2 ⟨rfl, hk2⟩
      rw [show (0 : Int).toNat = 0 from rfl, List.drop_zero]
      go_wp2_with fail
      refine (value_any _ _ _ l _ ((h.kept hk1).kept hk2) h0).mono ?_
      rintro e w3 ⟨rfl, hk3⟩
      have HK := (hk1.trans hk2).trans hk3
      have hc := HK.cell hc
      clear hk1 hk2 hk3
      go_wp2
      go_ret2
      exact ⟨by rw [HV.out]; rfl, HK⟩
    · go_enter Try.func13, Try.ntmps13
      go_wp2_with fail
      refine (run_any _ isSpace (enters Try.func21 (by kernel_rfl) (by kernel_rfl)) (fun x w => (space_any x w).mono fun e w' ⟨he, hw⟩ => ⟨he, hw ▸ Kept.refl _⟩) _ _ _ l 0 _ h (by omega)).mono ?_
      rintro e w1 ⟨rfl, hk1⟩
      rw [List.drop_zero]
      go_wp2_with fail
      refine (lead_any _ _ _ l 0 _ (h.kept hk1) (by omega)).mono ?_
      rintro e w2 ⟨rfl, hk2⟩
      rw [show (0 : Int).toNat = 0 from rfl, List.drop_zero]
      go_wp2_with fail
      refine (value_any _ _ _ l _ ((h.kept hk1).kept hk2) h0).mono ?_
      rintro e w3 ⟨rfl, hk3⟩
      have HK := (hk1.trans hk2).trans hk3
      have hc := HK.cell hc
      clear hk1 hk2 hk3
      go_wp2_with fail
      refine (starts_lit _ _ _ l 0 #[60, 47] [60, 47] _ (h.kept HK) (by decide) hn1 (by omega) (by decide)).mono ?_
      rintro e w4 ⟨rfl, hk4⟩
      rw [List.drop_zero]
      have hc := hk4.cell hc
      have HK := HK.trans hk4
      clear hk4
      go_wp2
      go_ret2
      exact ⟨by rw [HV.out]; rfl, HK⟩
  rw [if_neg c3] at hV0
  by_cases c4 : 0 < leadF l
  · have HV : Hid (pieceF l first = (2, leadF l)) := by unfold Hid; rw [hV0, if_pos c4]
    clear hV0 hE hhead
    rcases D with rfl | ⟨rfl, d1, d2⟩
    · go_enter Try.func13, Try.ntmps13
      go_wp2_with fail
      refine (run_any _ isSpace (enters Try.func21 (by kernel_rfl) (by kernel_rfl)) (fun x w => (space_any x w).mono fun e w' ⟨he, hw⟩ => ⟨he, hw ▸ Kept.refl _⟩) _ _ _ l 0 _ h (by omega)).mono ?_
      rintro e w1 ⟨rfl, hk1⟩
      rw [List.drop_zero]
      go_wp2_with fail
      refine (lead_any _ _ _ l 0 _ (h.kept hk1) (by omega)).mono ?_
      rintro e w2 ⟨rfl, hk2⟩
      rw [show (0 : Int).toNat = 0 from rfl, List.drop_zero]
      go_wp2_with fail
      refine (value_any _ _ _ l _ ((h.kept hk1).kept hk2) h0).mono ?_
      rintro e w3 ⟨rfl, hk3⟩
      have HK := (hk1.trans hk2).trans hk3
      have hc := HK.cell hc
      clear hk1 hk2 hk3
      go_wp2
      go_ret2
      exact ⟨by rw [HV.out]; rfl, HK⟩
    · go_enter Try.func13, Try.ntmps13
      go_wp2_with fail
      refine (run_any _ isSpace (enters Try.func21 (by kernel_rfl) (by kernel_rfl)) (fun x w => (space_any x w).mono fun e w' ⟨he, hw⟩ => ⟨he, hw ▸ Kept.refl _⟩) _ _ _ l 0 _ h (by omega)).mono ?_
      rintro e w1 ⟨rfl, hk1⟩
      rw [List.drop_zero]
      go_wp2_with fail
      refine (lead_any _ _ _ l 0 _ (h.kept hk1) (by omega)).mono ?_
      rintro e w2 ⟨rfl, hk2⟩
      rw [show (0 : Int).toNat = 0 from rfl, List.drop_zero]
      go_wp2_with fail
      refine (value_any _ _ _ l _ ((h.kept hk1).kept hk2) h0).mono ?_
      rintro e w3 ⟨rfl, hk3⟩
      have HK := (hk1.trans hk2).trans hk3
      have hc := HK.cell hc
      clear hk1 hk2 hk3
      go_wp2_with fail
      refine (starts_lit _ _ _ l 0 #[60, 47] [60, 47] _ (h.kept HK) (by decide) hn1 (by omega) (by decide)).mono ?_
      rintro e w4 ⟨rfl, hk4⟩
      rw [List.drop_zero]
      have hc := hk4.cell hc
      have HK := HK.trans hk4
      clear hk4
      go_wp2
      go_ret2
      exact ⟨by rw [HV.out]; rfl, HK⟩
  rw [if_neg c4, ← hE] at hV0
  by_cases c5 : (x == 61) = true
  · have HV : Hid (pieceF l first = (4, 1)) := by unfold Hid; rw [hV0, if_pos c5]
    clear hV0 hE hhead
    rcases D with rfl | ⟨rfl, d1, d2⟩
    · go_enter Try.func13, Try.ntmps13
      go_wp2_with fail
      refine (run_any _ isSpace (enters Try.func21 (by kernel_rfl) (by kernel_rfl)) (fun x w => (space_any x w).mono fun e w' ⟨he, hw⟩ => ⟨he, hw ▸ Kept.refl _⟩) _ _ _ l 0 _ h (by omega)).mono ?_
      rintro e w1 ⟨rfl, hk1⟩
      rw [List.drop_zero]
      go_wp2_with fail
      refine (lead_any _ _ _ l 0 _ (h.kept hk1) (by omega)).mono ?_
      rintro e w2 ⟨rfl, hk2⟩
      rw [show (0 : Int).toNat = 0 from rfl, List.drop_zero]
      go_wp2_with fail
      refine (value_any _ _ _ l _ ((h.kept hk1).kept hk2) h0).mono ?_
      rintro e w3 ⟨rfl, hk3⟩
      have HK := (hk1.trans hk2).trans hk3
      have hc := HK.cell hc
      clear hk1 hk2 hk3
      go_wp2
      go_ret2
      exact ⟨by rw [HV.out]; rfl, HK⟩
    · go_enter Try.func13, Try.ntmps13
      go_wp2_with fail
      refine (run_any _ isSpace (enters Try.func21 (by kernel_rfl) (by kernel_rfl)) (fun x w => (space_any x w).mono fun e w' ⟨he, hw⟩ => ⟨he, hw ▸ Kept.refl _⟩) _ _ _ l 0 _ h (by omega)).mono ?_
      rintro e w1 ⟨rfl, hk1⟩
      rw [List.drop_zero]
      go_wp2_with fail
      refine (lead_any _ _ _ l 0 _ (h.kept hk1) (by omega)).mono ?_
      rintro e w2 ⟨rfl, hk2⟩
      rw [show (0 : Int).toNat = 0 from rfl, List.drop_zero]
      go_wp2_with fail
      refine (value_any _ _ _ l _ ((h.kept hk1).kept hk2) h0).mono ?_
      rintro e w3 ⟨rfl, hk3⟩
      have HK := (hk1.trans hk2).trans hk3
      have hc := HK.cell hc
      clear hk1 hk2 hk3
      go_wp2_with fail
      refine (starts_lit _ _ _ l 0 #[60, 47] [60, 47] _ (h.kept HK) (by decide) hn1 (by omega) (by decide)).mono ?_
      rintro e w4 ⟨rfl, hk4⟩
      rw [List.drop_zero]
      have hc := hk4.cell hc
      have HK := HK.trans hk4
      clear hk4
      go_wp2
      go_ret2
      exact ⟨by rw [HV.out]; rfl, HK⟩
  rw [if_neg c5] at hV0
  have c5' : (x == 61) = false := by simpa using c5
  clear c5 hE
  by_cases c6 : 0 < valueF l
  · have HV : Hid (pieceF l first = (5, valueF l)) := by unfold Hid; rw [hV0, if_pos c6]
    clear hV0 hhead
    rcases D with rfl | ⟨rfl, d1, d2⟩
    · go_enter Try.func13, Try.ntmps13
      go_wp2_with fail
      refine (run_any _ isSpace (enters Try.func21 (by kernel_rfl) (by kernel_rfl)) (fun x w => (space_any x w).mono fun e w' ⟨he, hw⟩ => ⟨he, hw ▸ Kept.refl _⟩) _ _ _ l 0 _ h (by omega)).mono ?_
      rintro e w1 ⟨rfl, hk1⟩
      rw [List.drop_zero]
      go_wp2_with fail
      refine (lead_any _ _ _ l 0 _ (h.kept hk1) (by omega)).mono ?_
      rintro e w2 ⟨rfl, hk2⟩
      rw [show (0 : Int).toNat = 0 from rfl, List.drop_zero]
      go_wp2_with fail
      refine (value_any _ _ _ l _ ((h.kept hk1).kept hk2) h0).mono ?_
      rintro e w3 ⟨rfl, hk3⟩
      have HK := (hk1.trans hk2).trans hk3
      have hc := HK.cell hc
      clear hk1 hk2 hk3
      go_wp2
      go_ret2
      exact ⟨by rw [HV.out]; rfl, HK⟩
    · go_enter Try.func13, Try.ntmps13
      go_wp2_with fail
      refine (run_any _ isSpace (enters Try.func21 (by kernel_rfl) (by kernel_rfl)) (fun x w => (space_any x w).mono fun e w' ⟨he, hw⟩ => ⟨he, hw ▸ Kept.refl _⟩) _ _ _ l 0 _ h (by omega)).mono ?_
      rintro e w1 ⟨rfl, hk1⟩
      rw [List.drop_zero]
      go_wp2_with fail
      refine (lead_any _ _ _ l 0 _ (h.kept hk1) (by omega)).mono ?_
      rintro e w2 ⟨rfl, hk2⟩
      rw [show (0 : Int).toNat = 0 from rfl, List.drop_zero]
      go_wp2_with fail
      refine (value_any _ _ _ l _ ((h.kept hk1).kept hk2) h0).mono ?_
      rintro e w3 ⟨rfl, hk3⟩
      have HK := (hk1.trans hk2).trans hk3
      have hc := HK.cell hc
      clear hk1 hk2 hk3
      go_wp2_with fail
      refine (starts_lit _ _ _ l 0 #[60, 47] [60, 47] _ (h.kept HK) (by decide) hn1 (by omega) (by decide)).mono ?_
      rintro e w4 ⟨rfl, hk4⟩
      rw [List.drop_zero]
      have hc := hk4.cell hc
      have HK := HK.trans hk4
      clear hk4
      go_wp2
      go_ret2
      exact ⟨by rw [HV.out]; rfl, HK⟩
  rw [if_neg c6] at hV0
  rcases len_cases l hhead (by have := HL.out; omega) with ⟨e1, e2, e3⟩ | ⟨e1, e2, e3⟩ | ⟨e1, e2, e3⟩ | ⟨e1, e2, e3⟩ | ⟨e1, e2⟩
  · have HV : Hid (pieceF l first = (6, n)) := by unfold Hid; rw [hV0, if_pos (by simp [e1]), HL.out]
    have en : n = 2 := by rw [← HL.out, e2]
    subst en
    clear hV0 hhead e1 e2
    rcases D with rfl | ⟨rfl, d1, d2⟩
    · go_enter Try.func13, Try.ntmps13
      go_wp2_with fail
      refine (run_any _ isSpace (enters Try.func21 (by kernel_rfl) (by kernel_rfl)) (fun x w => (space_any x w).mono fun e w' ⟨he, hw⟩ => ⟨he, hw ▸ Kept.refl _⟩) _ _ _ l 0 _ h (by omega)).mono ?_
      rintro e w1 ⟨rfl, hk1⟩
      rw [List.drop_zero]
      go_wp2_with fail
      refine (lead_any _ _ _ l 0 _ (h.kept hk1) (by omega)).mono ?_
      rintro e w2 ⟨rfl, hk2⟩
      rw [show (0 : Int).toNat = 0 from rfl, List.drop_zero]
      go_wp2_with fail
      refine (value_any _ _ _ l _ ((h.kept hk1).kept hk2) h0).mono ?_
      rintro e w3 ⟨rfl, hk3⟩
      have HK := (hk1.trans hk2).trans hk3
      have hc := HK.cell hc
      clear hk1 hk2 hk3
      go_wp2_with fail
      refine (starts_lit _ _ _ l 0 #[47, 62] [47, 62] _ (h.kept HK) (by decide) hn1 (by omega) (by decide)).mono ?_
      rintro e w4 ⟨rfl, hk4⟩
      rw [List.drop_zero]
      have hc := hk4.cell hc
      have HK := HK.trans hk4
      clear hk4
      go_wp2
      go_ret2
      exact ⟨by rw [HV.out]; rfl, HK⟩
    · go_enter Try.func13, Try.ntmps13
      go_wp2_with fail
      refine (run_any _ isSpace (enters Try.func21 (by kernel_rfl) (by kernel_rfl)) (fun x w => (space_any x w).mono fun e w' ⟨he, hw⟩ => ⟨he, hw ▸ Kept.refl _⟩) _ _ _ l 0 _ h (by omega)).mono ?_
      rintro e w1 ⟨rfl, hk1⟩
      rw [List.drop_zero]
      go_wp2_with fail
      refine (lead_any _ _ _ l 0 _ (h.kept hk1) (by omega)).mono ?_
      rintro e w2 ⟨rfl, hk2⟩
      rw [show (0 : Int).toNat = 0 from rfl, List.drop_zero]
      go_wp2_with fail
      refine (value_any _ _ _ l _ ((h.kept hk1).kept hk2) h0).mono ?_
      rintro e w3 ⟨rfl, hk3⟩
      have HK := (hk1.trans hk2).trans hk3
      have hc := HK.cell hc
      clear hk1 hk2 hk3
      go_wp2_with fail
      refine (starts_lit _ _ _ l 0 #[60, 47] [60, 47] _ (h.kept HK) (by decide) hn1 (by omega) (by decide)).mono ?_
      rintro e w4 ⟨rfl, hk4⟩
      rw [List.drop_zero]
      have hc := hk4.cell hc
      have HK := HK.trans hk4
      clear hk4
      go_wp2_with fail
      refine (starts_lit _ _ _ l 0 #[47, 62] [47, 62] _ (h.kept HK) (by decide) hn1 (by omega) (by decide)).mono ?_
      rintro e w4 ⟨rfl, hk4⟩
      rw [List.drop_zero]
      have hc := hk4.cell hc
      have HK := HK.trans hk4
      clear hk4
      go_wp2
      go_ret2
      exact ⟨by rw [HV.out]; rfl, HK⟩
  · have HV : Hid (pieceF l first = (7, 1)) := by unfold Hid; rw [hV0, if_neg e1]
    have en : n = 2 := by rw [← HL.out, e2]
    subst en
    clear hV0 hhead e1 e2
    rcases D with rfl | ⟨rfl, d1, d2⟩
    · go_enter Try.func13, Try.ntmps13
      go_wp2_with fail
      refine (run_any _ isSpace (enters Try.func21 (by kernel_rfl) (by kernel_rfl)) (fun x w => (space_any x w).mono fun e w' ⟨he, hw⟩ => ⟨he, hw ▸ Kept.refl _⟩) _ _ _ l 0 _ h (by omega)).mono ?_
      rintro e w1 ⟨rfl, hk1⟩
      rw [List.drop_zero]
      go_wp2_with fail
      refine (lead_any _ _ _ l 0 _ (h.kept hk1) (by omega)).mono ?_
      rintro e w2 ⟨rfl, hk2⟩
      rw [show (0 : Int).toNat = 0 from rfl, List.drop_zero]
      go_wp2_with fail
      refine (value_any _ _ _ l _ ((h.kept hk1).kept hk2) h0).mono ?_
      rintro e w3 ⟨rfl, hk3⟩
      have HK := (hk1.trans hk2).trans hk3
      have hc := HK.cell hc
      clear hk1 hk2 hk3
      go_wp2_with fail
      refine (starts_lit _ _ _ l 0 #[47, 62] [47, 62] _ (h.kept HK) (by decide) hn1 (by omega) (by decide)).mono ?_
      rintro e w4 ⟨rfl, hk4⟩
      rw [List.drop_zero]
      have hc := hk4.cell hc
      have HK := HK.trans hk4
      clear hk4
      go_wp2
      go_ret2
      exact ⟨by rw [HV.out]; rfl, HK⟩
    · go_enter Try.func13, Try.ntmps13
      go_wp2_with fail
      refine (run_any _ isSpace (enters Try.func21 (by kernel_rfl) (by kernel_rfl)) (fun x w => (space_any x w).mono fun e w' ⟨he, hw⟩ => ⟨he, hw ▸ Kept.refl _⟩) _ _ _ l 0 _ h (by omega)).mono ?_
      rintro e w1 ⟨rfl, hk1⟩
      rw [List.drop_zero]
      go_wp2_with fail
      refine (lead_any _ _ _ l 0 _ (h.kept hk1) (by omega)).mono ?_
      rintro e w2 ⟨rfl, hk2⟩
      rw [show (0 : Int).toNat = 0 from rfl, List.drop_zero]
      go_wp2_with fail
      refine (value_any _ _ _ l _ ((h.kept hk1).kept hk2) h0).mono ?_
      rintro e w3 ⟨rfl, hk3⟩
      have HK := (hk1.trans hk2).trans hk3
      have hc := HK.cell hc
      clear hk1 hk2 hk3
      go_wp2_with fail
      refine (starts_lit _ _ _ l 0 #[60, 47] [60, 47] _ (h.kept HK) (by decide) hn1 (by omega) (by decide)).mono ?_
      rintro e w4 ⟨rfl, hk4⟩
      rw [List.drop_zero]
      have hc := hk4.cell hc
      have HK := HK.trans hk4
      clear hk4
      go_wp2_with fail
      refine (starts_lit _ _ _ l 0 #[47, 62] [47, 62] _ (h.kept HK) (by decide) hn1 (by omega) (by decide)).mono ?_
      rintro e w4 ⟨rfl, hk4⟩
      rw [List.drop_zero]
      have hc := hk4.cell hc
      have HK := HK.trans hk4
      clear hk4
      go_wp2
      go_ret2
      exact ⟨by rw [HV.out]; rfl, HK⟩
  · have HV : Hid (pieceF l first = (6, n)) := by unfold Hid; rw [hV0, if_pos (by simp [e1]), HL.out]
    have en : n = 1 := by rw [← HL.out, e2]
    subst en
    clear hV0 hhead e1 e2
    rcases D with rfl | ⟨rfl, d1, d2⟩
    · go_enter Try.func13, Try.ntmps13
      go_wp2_with fail
      refine (run_any _ isSpace (enters Try.func21 (by kernel_rfl) (by kernel_rfl)) (fun x w => (space_any x w).mono fun e w' ⟨he, hw⟩ => ⟨he, hw ▸ Kept.refl _⟩) _ _ _ l 0 _ h (by omega)).mono ?_
      rintro e w1 ⟨rfl, hk1⟩
      rw [List.drop_zero]
      go_wp2_with fail
      refine (lead_any _ _ _ l 0 _ (h.kept hk1) (by omega)).mono ?_
      rintro e w2 ⟨rfl, hk2⟩
      rw [show (0 : Int).toNat = 0 from rfl, List.drop_zero]
      go_wp2_with fail
      refine (value_any _ _ _ l _ ((h.kept hk1).kept hk2) h0).mono ?_
      rintro e w3 ⟨rfl, hk3⟩
      have HK := (hk1.trans hk2).trans hk3
      have hc := HK.cell hc
      clear hk1 hk2 hk3
      go_wp2
      go_ret2
      exact ⟨by rw [HV.out]; rfl, HK⟩
    · go_enter Try.func13, Try.ntmps13
      go_wp2_with fail
      refine (run_any _ isSpace (enters Try.func21 (by kernel_rfl) (by kernel_rfl)) (fun x w => (space_any x w).mono fun e w' ⟨he, hw⟩ => ⟨he, hw ▸ Kept.refl _⟩) _ _ _ l 0 _ h (by omega)).mono ?_
      rintro e w1 ⟨rfl, hk1⟩
      rw [List.drop_zero]
      go_wp2_with fail
      refine (lead_any _ _ _ l 0 _ (h.kept hk1) (by omega)).mono ?_
      rintro e w2 ⟨rfl, hk2⟩
      rw [show (0 : Int).toNat = 0 from rfl, List.drop_zero]
      go_wp2_with fail
      refine (value_any _ _ _ l _ ((h.kept hk1).kept hk2) h0).mono ?_
      rintro e w3 ⟨rfl, hk3⟩
      have HK := (hk1.trans hk2).trans hk3
      have hc := HK.cell hc
      clear hk1 hk2 hk3
      go_wp2_with fail
      refine (starts_lit _ _ _ l 0 #[60, 47] [60, 47] _ (h.kept HK) (by decide) hn1 (by omega) (by decide)).mono ?_
      rintro e w4 ⟨rfl, hk4⟩
      rw [List.drop_zero]
      have hc := hk4.cell hc
      have HK := HK.trans hk4
      clear hk4
      go_wp2
      go_ret2
      exact ⟨by rw [HV.out]; rfl, HK⟩
  · have HV : Hid (pieceF l first = (7, 1)) := by unfold Hid; rw [hV0, if_neg e1]
    have en : n = 1 := by rw [← HL.out, e2]
    subst en
    clear hV0 hhead e1 e2
    rcases D with rfl | ⟨rfl, d1, d2⟩
    · go_enter Try.func13, Try.ntmps13
      go_wp2_with fail
      refine (run_any _ isSpace (enters Try.func21 (by kernel_rfl) (by kernel_rfl)) (fun x w => (space_any x w).mono fun e w' ⟨he, hw⟩ => ⟨he, hw ▸ Kept.refl _⟩) _ _ _ l 0 _ h (by omega)).mono ?_
      rintro e w1 ⟨rfl, hk1⟩
      rw [List.drop_zero]
      go_wp2_with fail
      refine (lead_any _ _ _ l 0 _ (h.kept hk1) (by omega)).mono ?_
      rintro e w2 ⟨rfl, hk2⟩
      rw [show (0 : Int).toNat = 0 from rfl, List.drop_zero]
      go_wp2_with fail
      refine (value_any _ _ _ l _ ((h.kept hk1).kept hk2) h0).mono ?_
      rintro e w3 ⟨rfl, hk3⟩
      have HK := (hk1.trans hk2).trans hk3
      have hc := HK.cell hc
      clear hk1 hk2 hk3
      go_wp2
      go_ret2
      exact ⟨by rw [HV.out]; rfl, HK⟩
    · go_enter Try.func13, Try.ntmps13
      go_wp2_with fail
      refine (run_any _ isSpace (enters Try.func21 (by kernel_rfl) (by kernel_rfl)) (fun x w => (space_any x w).mono fun e w' ⟨he, hw⟩ => ⟨he, hw ▸ Kept.refl _⟩) _ _ _ l 0 _ h (by omega)).mono ?_
      rintro e w1 ⟨rfl, hk1⟩
      rw [List.drop_zero]
      go_wp2_with fail
      refine (lead_any _ _ _ l 0 _ (h.kept hk1) (by omega)).mono ?_
      rintro e w2 ⟨rfl, hk2⟩
      rw [show (0 : Int).toNat = 0 from rfl, List.drop_zero]
      go_wp2_with fail
      refine (value_any _ _ _ l _ ((h.kept hk1).kept hk2) h0).mono ?_
      rintro e w3 ⟨rfl, hk3⟩
      have HK := (hk1.trans hk2).trans hk3
      have hc := HK.cell hc
      clear hk1 hk2 hk3
      go_wp2_with fail
      refine (starts_lit _ _ _ l 0 #[60, 47] [60, 47] _ (h.kept HK) (by decide) hn1 (by omega) (by decide)).mono ?_
      rintro e w4 ⟨rfl, hk4⟩
      rw [List.drop_zero]
      have hc := hk4.cell hc
      have HK := HK.trans hk4
      clear hk4
      go_wp2
      go_ret2
      exact ⟨by rw [HV.out]; rfl, HK⟩
  · have HV : Hid (pieceF l first = (7, 1)) := by unfold Hid; rw [hV0, if_neg e1]
    have en : 2 < n := by rw [← HL.out]; exact e2
    clear hV0 hhead e1 e2
    rcases D with rfl | ⟨rfl, d1, d2⟩
    · go_enter Try.func13, Try.ntmps13
      go_wp2_with fail
      refine (run_any _ isSpace (enters Try.func21 (by kernel_rfl) (by kernel_rfl)) (fun x w => (space_any x w).mono fun e w' ⟨he, hw⟩ => ⟨he, hw ▸ Kept.refl _⟩) _ _ _ l 0 _ h (by omega)).mono ?_
      rintro e w1 ⟨rfl, hk1⟩
      rw [List.drop_zero]
      go_wp2_with fail
      refine (lead_any _ _ _ l 0 _ (h.kept hk1) (by omega)).mono ?_
      rintro e w2 ⟨rfl, hk2⟩
      rw [show (0 : Int).toNat = 0 from rfl, List.drop_zero]
      go_wp2_with fail
      refine (value_any _ _ _ l _ ((h.kept hk1).kept hk2) h0).mono ?_
      rintro e w3 ⟨rfl, hk3⟩
      have HK := (hk1.trans hk2).trans hk3
      have hc := HK.cell hc
      clear hk1 hk2 hk3
      go_wp2
      go_ret2
      exact ⟨by rw [HV.out]; rfl, HK⟩
    · go_enter Try.func13, Try.ntmps13
      go_wp2_with fail
      refine (run_any _ isSpace (enters Try.func21 (by kernel_rfl) (by kernel_rfl)) (fun x w => (space_any x w).mono fun e w' ⟨he, hw⟩ => ⟨he, hw ▸ Kept.refl _⟩) _ _ _ l 0 _ h (by omega)).mono ?_
      rintro e w1 ⟨rfl, hk1⟩
      rw [List.drop_zero]
      go_wp2_with fail
      refine (lead_any _ _ _ l 0 _ (h.kept hk1) (by omega)).mono ?_
      rintro e w2 ⟨rfl, hk2⟩
      rw [show (0 : Int).toNat = 0 from rfl, List.drop_zero]
      go_wp2_with fail
      refine (value_any _ _ _ l _ ((h.kept hk1).kept hk2) h0).mono ?_
      rintro e w3 ⟨rfl, hk3⟩
      have HK := (hk1.trans hk2).trans hk3
      have hc := HK.cell hc
      clear hk1 hk2 hk3
      go_wp2_with fail
      refine (starts_lit _ _ _ l 0 #[60, 47] [60, 47] _ (h.kept HK) (by decide) hn1 (by omega) (by decide)).mono ?_
      rintro e w4 ⟨rfl, hk4⟩
      rw [List.drop_zero]
      have hc := hk4.cell hc
      have HK := HK.trans hk4
      clear hk4
      go_wp2
      go_ret2
      exact ⟨by rw [HV.out]; rfl, HK⟩
end Go.Proofs.Ytbebmmohambngaa
