/- Layer 9: the document's kind, blank, pubid, text: walked. -/
import Derived.Test.YtnfcfpcpfnhcnaaDtdE
import Derived.Test.YtnfcfpcpfnhcnaaDtdG
import Derived.Test.YtnfcfpcpfnhcnaaClassD
import Derived.Test.YtnfcfpcpfnhcnaaStr
import Derived.Test.YtnfcfpcpfnhcnaaDtdY
namespace Go.Proofs.Ytnfcfpcpfnhcnaa
open Go.RowKit
attribute [local go_sem ↓] Go.wp_at_zero Go.wp_at_succ

/-- The kind of the part at a place; 0 where there is none. -/
def kindN (P : List Prt) (k : Nat) : Int := match P[k]? with | some p => p.k | none => 0
theorem rkind_any (A : Option Addr) (m c : Nat) (P : List Prt) (k : Nat) (w : World) (h : Sl w 3 A m c (P.flatMap prtC)) (hm : m ≤ 1000000) :
    Calls Try.prog 34 #[.slice A m c, .int .i64 k] w fun e w' => e = .returned (.int .i64 (kindN P k)) ∧ Kept w w' := by
  have hcap := h.cap
  have hmax := h.max
  have hl := h.llen prtC_len (by omega)
  have q0 : (0 : Int) ≤ k := by omega
  have q1 : ¬ (k : Int) < 0 := by omega
  by_cases hlt : k < m
  · obtain ⟨b, o, p, rfl, hp, hpc, hb⟩ := h.elemb prtC_len (by omega) hlt
    have x0 : w.cell? ⟨b, o + k * 3, none⟩ = some (.int .i64 p.k) := hpc 0 _ rfl
    have HV : Hid (kindN P k = p.k) := by unfold Hid kindN; rw [hp]
    have l1 : ¬ (m : Int) ≤ k := by omega
    have l2 : (k : Int) < m := by omega
    clear hp hpc hl
    go_enter Try.func34, Try.ntmps34
    go_wp2_with fail
    go_ret
    exact ⟨ret_int (by rw [HV.out]), by repeat (first | (with_reducible exact Kept.refl _) | (with_reducible exact (Kept.refl _).drew) | (with_reducible refine Kept.alloc ?_ _))⟩
  · have HV : Hid (kindN P k = 0) := by unfold Hid kindN; rw [List.getElem?_eq_none (by omega)]
    have l1 : (m : Int) ≤ k := by omega
    clear hl
    go_enter Try.func34, Try.ntmps34
    go_wp2_with fail
    go_ret
    exact ⟨ret_int (by rw [HV.out]), by repeat (first | (with_reducible exact Kept.refl _) | (with_reducible exact (Kept.refl _).drew) | (with_reducible refine Kept.alloc ?_ _))⟩
def blankN (P : List Prt) (k : Nat) : Nat := if kindN P k = 3 then k + 1 else k
theorem rblank_any (A : Option Addr) (m c : Nat) (P : List Prt) (k : Nat) (w : World) (h : Sl w 3 A m c (P.flatMap prtC)) (hm : m ≤ 1000000) (hk : k ≤ 1000000) :
    Calls Try.prog 37 #[.slice A m c, .int .i64 k] w fun e w' => e = .returned (.int .i64 (blankN P k)) ∧ Kept w w' := by
  have HK := Lib.hid (rkind_any A m c P k w h hm)
  have ws1 : IntKind.i64.wrap ((k : Int) + 1) = (k : Int) + 1 := IntWalk.i64_in _ (by omega)
  by_cases h3 : kindN P k = 3
  · have HV : Hid (blankN P k = k + 1) := by unfold Hid blankN; rw [if_pos h3]
    rw [h3] at HK
    clear h3
    go_enter Try.func37, Try.ntmps37
    go_wp2_with fail
    refine HK.out.mono ?_
    rintro e w1 ⟨rfl, k1⟩
    go_wp2_with fail
    go_ret
    exact ⟨ret_int (by rw [HV.out]; simp), k1⟩
  · have HV : Hid (blankN P k = k) := by unfold Hid blankN; rw [if_neg h3]
    obtain ⟨K, hK⟩ : ∃ K, kindN P k = K := ⟨_, rfl⟩
    rw [hK] at HK h3
    have d3 : (K == 3) = false := by simpa using h3
    clear hK h3
    go_enter Try.func37, Try.ntmps37
    go_wp2_with fail
    refine HK.out.mono ?_
    rintro e w1 ⟨rfl, k1⟩
    go_wp2_with fail
    go_ret
    exact ⟨ret_int (by rw [HV.out]), k1⟩
theorem pubL_stop (l : List Int) {k m : Nat} (h : ¬ k < m) : ((l.drop k).take (m - k)).all isPubid = true := by
  rw [show m - k = 0 by omega]
  simp
theorem pubL_on {l : List Int} {k m : Nat} {x : Int} (h : k < m) (hx : l[k]? = some x) : ((l.drop k).take (m - k)).all isPubid = (isPubid x && ((l.drop (k + 1)).take (m - (k + 1))).all isPubid) := by
  rw [drop_get hx, show m - k = (m - (k + 1)) + 1 by omega, List.take_succ_cons, List.all_cons]
set_option maxHeartbeats 4000000 in
theorem rpids_any (A : Option Addr) (n c : Nat) (l : List Int) (K : Int) (F T : Nat) (w : World) (h : Sl w 1 A n c (l.map (Value.int .i32))) (hn : n ≤ 1000000) (hF : F ≤ n) (hT : T ≤ n) :
    Calls Try.prog 36 #[.slice A n c, .agg #[.int .i64 K, .int .i64 F, .int .i64 T]] w fun e w' => e = .returned (.bool (pubOK l ⟨K, F, T⟩)) ∧ Kept w w' := by
  have hcap := h.cap
  have hmax := h.max
  have HL := Lib.hid h.llen1
  have HV : Hid (pubOK l ⟨K, F, T⟩ = ((l.drop (F + 1)).take ((T - 1) - (F + 1))).all isPubid) := by
    unfold Hid pubOK
    dsimp only
    rw [show ((F : Int) + 1).toNat = F + 1 by omega, show ((T : Int) - 1).toNat = T - 1 by omega]
  obtain ⟨R, hR⟩ : ∃ R, pubOK l ⟨K, F, T⟩ = R := ⟨_, rfl⟩
  rw [hR] at HV ⊢
  clear hR
  have ws1 : IntKind.i64.wrap ((F : Int) + 1) = ((F + 1 : Nat) : Int) := by rw [IntWalk.i64_in _ (by omega)]; omega
  have ws2 : IntKind.i64.wrap ((T : Int) - 1) = (T : Int) - 1 := IntWalk.i64_in _ (by omega)
  go_enter Try.func36, Try.ntmps36
  go_wp2_with fail
  have B := Blk.new w #[.int .i64 K, .int .i64 F, .int .i64 T] 36
  have k1 : Kept w (w.alloc (.cells #[.int .i64 K, .int .i64 F, .int .i64 T] 36)) := (Kept.refl w).alloc _
  generalize w.alloc (.cells #[.int .i64 K, .int .i64 F, .int .i64 T] 36) = w0 at B k1 ⊢
  generalize w.heap.size = g at B ⊢
  have h0 := h.kept k1
  have cT : w0.cell? ⟨g, 2, none⟩ = some (.int .i64 T) := B.cell 2
  clear B h
  go_loopw [5] (fun i wr => ∃ k : Nat, i = .int .i64 k ∧ F + 1 ≤ k ∧ k ≤ 1000001 ∧ Kept w0 wr ∧ Hid (R = ((l.drop k).take ((T - 1) - k)).all isPubid)) (fun i _ => T - (intOf i).toNat)
  case atStart => exact ⟨F + 1, by first | rfl | go_num, Nat.le_refl _, by omega, Kept.refl _, HV⟩
  case round =>
    obtain ⟨k, rfl, hFk, hk, hkept, hinv⟩ := hrel
    have ct := hkept.cell cT
    have gl := World.block_lt_of_cell? _ _ ct
    by_cases hlt : k < T - 1
    · obtain ⟨b, o, x, rfl, hx, hc, hbb⟩ := (h0.kept hkept).oneb (show k < n by omega)
      have l1 : (k : Int) < (T : Int) - 1 := by omega
      have HI := Lib.hid (hinv.out.trans (pubL_on hlt hx))
      obtain ⟨q, hq⟩ : ∃ q, isPubid x = q := ⟨_, rfl⟩
      have HC := Lib.hid (rpubid_any x)
      rw [hq] at HC HI
      clear hq hx hinv
      cases q
      · have HE := Lib.hid (show R = false by rw [HI.out]; rfl)
        go_wp2_with fail
        refine (HC.out _).mono ?_
        rintro e w2 ⟨rfl, k2⟩
        go_wp2_with fail
        go_ret
        exact ⟨by rw [HE.out]; rfl, (k1.trans hkept).trans k2⟩
      · go_wp2_with fail
        refine (HC.out _).mono ?_
        rintro e w2 ⟨rfl, k2⟩
        go_wp2_with fail
        go_roundw
        case rel => exact ⟨k + 1, by go_num, by omega, by omega, hkept.trans k2, by unfold Hid; rw [HI.out, Bool.true_and]⟩
        case measure => simp [intOf]; omega
    · have l1 : ¬ (k : Int) < (T : Int) - 1 := by omega
      have HE := Lib.hid (show R = true by rw [hinv.out, pubL_stop l hlt])
      go_wp2_with fail
      go_ret
      exact ⟨by rw [HE.out]; rfl, k1.trans hkept⟩
def byF (x : Int) : Int := if 0 < x ∧ x < 128 then x else 0
def textL (l : List Int) (F T : Nat) : List Int := ((l.drop F).take (T - F)).map byF
theorem textL_stop (l : List Int) {k m : Nat} (h : ¬ k < m) : textL l k m = [] := by
  unfold textL
  rw [show m - k = 0 by omega]
  simp
theorem textL_on {l : List Int} {k m : Nat} {x : Int} (h : k < m) (hx : l[k]? = some x) : textL l k m = byF x :: textL l (k + 1) m := by
  unfold textL
  rw [drop_get hx, show m - k = (m - (k + 1)) + 1 by omega, List.take_succ_cons, List.map_cons]
theorem appT_txt : AppT Try.prog 67 5 1 := appT_mk (z := .int .u8 0) (bytes := 1) Try.underlying67 (by kernel_rfl) rfl (by omega) (by omega)
set_option maxHeartbeats 4000000 in
theorem rtext_any (A : Option Addr) (n c : Nat) (l : List Int) (K : Int) (F T : Nat) (w : World) (h : Sl w 1 A n c (l.map (Value.int .i32))) (hn : n ≤ 1000000) (hF : F ≤ n) (hT : T ≤ n) :
    Calls Try.prog 35 #[.slice A n c, .agg #[.int .i64 K, .int .i64 F, .int .i64 T]] w fun e w' => e = .returned (.string (strOfNums (textL l F T))) ∧ Kept w w' := by
  have hcap := h.cap
  have hmax := h.max
  obtain ⟨R, hR⟩ : ∃ R, textL l F T = R := ⟨_, rfl⟩
  have HV := Lib.hid hR.symm
  rw [hR]
  clear hR
  go_enter Try.func35, Try.ntmps35
  go_wp2_with fail
  have B := Blk.new w #[.int .i64 K, .int .i64 F, .int .i64 T] 36
  have k1 : Kept w (w.alloc (.cells #[.int .i64 K, .int .i64 F, .int .i64 T] 36)) := (Kept.refl w).alloc _
  generalize w.alloc (.cells #[.int .i64 K, .int .i64 F, .int .i64 T] 36) = w0 at B k1 ⊢
  generalize w.heap.size = g at B ⊢
  have h0 := h.kept k1
  have cT : w0.cell? ⟨g, 2, none⟩ = some (.int .i64 T) := B.cell 2
  clear B h
  go_loopw [5, 6] (fun v i wr => ∃ (k : Nat) (D : List Int), i = .int .i64 k ∧ F ≤ k ∧ k ≤ 1000000 ∧ D.length ≤ k ∧ wr.ownsRow w0.heap.size 5 1 v D.length (D.map (Value.int .u8)) ∧ Kept w0 wr ∧ Hid (R = D ++ textL l k T)) (fun _ i _ => T - (intOf i).toNat)
  case atStart => exact ⟨F, [], rfl, Nat.le_refl _, by omega, Nat.zero_le _, World.ownsRow_nil _ _ _ _, Kept.refl _, HV⟩
  case round =>
    obtain ⟨k, D, rfl, hFk, hk, hDk, hown, hkept, hinv⟩ := hrel
    have ct := hkept.cell cT
    have gl := World.block_lt_of_cell? _ _ ct
    by_cases hlt : k < T
    · obtain ⟨b, o, x, rfl, hx, hc, hbb⟩ := (h0.kept hkept).oneb (show k < n by omega)
      have l1 : (k : Int) < (T : Int) := by omega
      have HI := Lib.hid (show R = (D ++ [byF x]) ++ textL l (k + 1) T by rw [hinv.out, textL_on hlt hx, List.append_assoc]; rfl)
      clear hx hinv
      by_cases hp : 0 < x
      · by_cases hq : x < 128
        · rw [show byF x = x from if_pos ⟨hp, hq⟩] at HI
          have wx : IntKind.u8.wrap x = x := IntWalk.u8_in _ (by omega)
          go_wp2_with (at_builtin; refine wpList_push w0 (by rfl) _ _ (by rfl) appT_txt (by rfl) hown hkept (by rfl) ?_ ?_; (exact ⟨by simp, rfl, rfl, by omega⟩); intro v' w' hown' hk' _ _)
          go_roundw
          case rel => exact ⟨k + 1, D ++ [x], by go_num, by omega, by omega, by simp; omega, by simpa using hown', hk', HI⟩
          case measure => simp [intOf]; omega
        · rw [show byF x = 0 from if_neg (by omega)] at HI
          go_wp2_with (at_builtin; refine wpList_push w0 (by rfl) _ _ (by rfl) appT_txt (by rfl) hown hkept (by rfl) ?_ ?_; (exact ⟨by simp, rfl, rfl, by omega⟩); intro v' w' hown' hk' _ _)
          go_roundw
          case rel => exact ⟨k + 1, D ++ [0], by go_num, by omega, by omega, by simp; omega, by simpa using hown', hk', HI⟩
          case measure => simp [intOf]; omega
      · rw [show byF x = 0 from if_neg (by omega)] at HI
        go_wp2_with (at_builtin; refine wpList_push w0 (by rfl) _ _ (by rfl) appT_txt (by rfl) hown hkept (by rfl) ?_ ?_; (exact ⟨by simp, rfl, rfl, by omega⟩); intro v' w' hown' hk' _ _)
        go_roundw
        case rel => exact ⟨k + 1, D ++ [0], by go_num, by omega, by omega, by simp; omega, by simpa using hown', hk', HI⟩
        case measure => simp [intOf]; omega
    · have l1 : ¬ (k : Int) < (T : Int) := by omega
      obtain rfl : R = D := by rw [hinv.out, textL_stop l hlt, List.append_nil]
      obtain ⟨A', c', rfl, hsl⟩ := Sl.of_own hown
      obtain ⟨S, hS⟩ : ∃ S, strOfNums R = S := ⟨_, rfl⟩
      have hcv := run_str_q (P := Try.prog) Try.underlying67 Try.underlying5 Try.underlying9 hsl S hS
      have hcv0 := run_str (P := Try.prog) Try.underlying67 Try.underlying5 Try.underlying9 hsl
      rw [hS] at hcv0
      have HS := Lib.hid hS
      clear hS hinv HV
      go_wp2_with fail
      go_ret
      exact ⟨by rw [HS.out]; rfl, k1.trans hkept⟩
end Go.Proofs.Ytnfcfpcpfnhcnaa
