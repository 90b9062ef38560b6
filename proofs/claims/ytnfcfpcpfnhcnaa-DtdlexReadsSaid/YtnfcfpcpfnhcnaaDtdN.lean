/- Layer 9: the document's Read: walked. Printed by gen_dtdn.py. -/
import Derived.Test.YtnfcfpcpfnhcnaaDtdM
namespace Go.Proofs.Ytnfcfpcpfnhcnaa
open Go.RowKit
attribute [local go_sem ↓] Go.wp_at_zero Go.wp_at_succ

/-- The local head's block, the result's block; all that was there behind Parts (W) is kept. -/
structure Sx (W w : World) (g6 g8 : Nat) (hs : Array Value) : Prop where
  k : Kept W w
  b : Blk w g8 hs 38
  z : Blk w g6 zhd 38
  l8 : W.heap.size ≤ g8
  l6 : g6 < W.heap.size
section
variable {W w w' : World} {g6 g8 : Nat} {hs : Array Value}
theorem Sx.kept (R : Sx W w g6 g8 hs) (kk : Kept w w') : Sx W w' g6 g8 hs := ⟨R.k.trans kk, R.b.kept kk, R.z.kept kk, R.l8, R.l6⟩
theorem Sx.set (R : Sx W w g6 g8 hs) (i : Nat) (u : Value) : Sx W (w.setCell ⟨g8, i, none⟩ u) g6 g8 (hs.setIfInBounds i u) :=
  ⟨R.k.setCell (p := ⟨g8, i, none⟩) R.l8 u, R.b.set i u, R.z.far (p := ⟨g8, i, none⟩) (fun e => by have h1 := R.l8; have h2 := R.l6; have h3 : g6 = g8 := e; omega) u, R.l8, R.l6⟩
end
theorem prt_at {w : World} {b o m c : Nat} {P : List Prt} (h : Sl w 3 (some ⟨b, o, none⟩) m c (P.flatMap prtC)) (hm : m ≤ 1000000) {k : Nat} (hk : k < m) :
    w.cell? ⟨b, o + k * 3, none⟩ = some (.int .i64 (nthP P k).k) ∧ w.cell? ⟨b, o + k * 3 + 1, none⟩ = some (.int .i64 (nthP P k).f) ∧ w.cell? ⟨b, o + k * 3 + 2, none⟩ = some (.int .i64 (nthP P k).t) := by
  obtain ⟨b', o', p, hA', hp, hpc, _⟩ := h.elemb prtC_len (by have := h.cap; have := h.max; omega) hk
  injection hA' with hA'
  injection hA' with e1 e2
  subst e1 e2
  rw [nth_at hp]
  exact ⟨hpc 0 _ rfl, hpc 1 _ rfl, hpc 2 _ rfl⟩
theorem nth_mem {P : List Prt} {k : Nat} (h : k < P.length) : nthP P k ∈ P := by
  rw [nth_at (List.getElem?_eq_getElem h)]
  exact List.getElem_mem h
theorem eqPUB {X : ByteArray} (h : X.toList = [80, 85, 66, 76, 73, 67]) : X = bPUB := by
  rw [ByteArray.toList_eq] at h
  exact ByteArray.ext (Array.toList_inj.1 h)
theorem eqSYS {X : ByteArray} (h : X.toList = [83, 89, 83, 84, 69, 77]) : X = bSYS := by
  rw [ByteArray.toList_eq] at h
  exact ByteArray.ext (Array.toList_inj.1 h)
/-- The walk's end by a letter: no tactic tries its hand at the return before it is asked to. -/
theorem wp_end {P : Program} {c : Code} {Q : Exit → Act → World → Prop} {a : Act} {w : World} (h : ∀ Q0 : Exit → Act → World → Prop, Hid (∀ ex a' w', Q ex a' w' → Q0 ex a' w') → Code.wp P c Q0 a w) : Code.wp P c Q a w := h Q (fun _ _ _ h => h)


def startsAt (n : Nat) : Code → Bool
  | .region m _ _ => m == n
  | .seq a _ => startsAt n a
  | _ => false
/-- A function's text from a region on. -/
def tailAt (n : Nat) : Code → Option Code
  | .seq a b => if startsAt n a then some (.seq a b) else match tailAt n a with
    | some c => some c
    | none => tailAt n b
  | .block _ c => tailAt n c
  | .scope c => tailAt n c
  | _ => none
noncomputable def rreadTail : Code := ((Try.f17.body.bind (tailAt 19)).getD .skip)
set_option maxRecDepth 1000000 in
set_option maxHeartbeats 8000000 in
theorem rread_tail (A : Option Addr) (n c : Nat) (f t : Int) (w w1 w9 : World) (P : List Prt) (V : Hd) (nm pb sy : Prt) (ra b o m c1 g6 g8 : Nat) (Q0 : Exit → Act → World → Prop)
    (HQ0 : Hid (∀ ex a' w', bodyPost Try.prog Try.f17 (fun e w' => e = .returned V.val ∧ Kept w w') ex a' w' → Q0 ex a' w'))
    (HG : Hid (w.heap.size ≤ g6)) (HKW : Hid (Kept w w1)) (HM : Hid (m = P.length)) (hm1 : m ≤ 1000000)
    (HB : Hid (∀ (k : Nat), k ≤ 1000 → ∀ w', Kept w1 w' → Calls Try.prog 37 #[.slice (some ⟨b, o, none⟩) m c1, .int .i64 ((k : Nat) : Int)] w' fun e w'' => e = .returned (.int .i64 (blankN P k)) ∧ Kept w' w''))
    (HK : Hid (∀ (k : Nat) w', Kept w1 w' → Calls Try.prog 34 #[.slice (some ⟨b, o, none⟩) m c1, .int .i64 ((k : Nat) : Int)] w' fun e w'' => e = .returned (.int .i64 (kindN P k)) ∧ Kept w' w''))
    (HPC : Hid (∀ (k : Nat), k < m → w1.cell? ⟨b, o + k * 3, none⟩ = some (.int .i64 (nthP P k).k) ∧ w1.cell? ⟨b, o + k * 3 + 1, none⟩ = some (.int .i64 (nthP P k).f) ∧ w1.cell? ⟨b, o + k * 3 + 2, none⟩ = some (.int .i64 (nthP P k).t)))
    (hra : ra ≤ 9) (HV3 : Hid (docIn P nm pb sy (blankN P ra) = V)) (S9 : Sx w1 w9 g6 g8 (hdA nm pb sy Prt.none_ false)) (u10 u11 u12 u13 u14 u15 u16 u17 u18 u19 u20 u21 u22 u23 u24 u25 u26 u27 u28 u29 u30 u31 u32 u33 u34 u35 u36 u37 u38 u39 u40 u41 u42 u43 u44 u45 u46 u47 u48 u49 u50 u51 u52 u53 u54 u55 u56 u57 u58 u59 u60 u61 u62 u63 u64 u65 u66 u67 u68 u69 u70 u71 u72 u73 u74 u75 u76 u77 u78 u79 u80 u81 u82 u83 u84 u85 u86 u87 u88 u89 u90 u91 u92 u93 u94 u95 u96 u97 u98 u99 u100 u101 u102 u103 u104 u105 u106 u107 u108 u109 u110 u111 u112 u113 u114 u115 u116 u117 u118 u119 u120 u121 u122 u123 u124 u125 u126 u127 u128 u129 u130 u131 u132 u133 u134 u135 u136 u137 : Value) :
    Code.wp Try.prog rreadTail Q0 ⟨#[.slice A n c, .int .i64 f, .int .i64 t, undef, undef, undef, .pointer (some ⟨g6, 0, none⟩), .slice (some ⟨b, o, none⟩) m c1, .pointer (some ⟨g8, 0, none⟩), .int .i64 (ra : Int), u10, u11, u12, u13, u14, u15, u16, u17, u18, u19, u20, u21, u22, u23, u24, u25, u26, u27, u28, u29, u30, u31, u32, u33, u34, u35, u36, u37, u38, u39, u40, u41, u42, u43, u44, u45, u46, u47, u48, u49, u50, u51, u52, u53, u54, u55, u56, u57, u58, u59, u60, u61, u62, u63, u64, u65, u66, u67, u68, u69, u70, u71, u72, u73, u74, u75, u76, u77, u78, u79, u80, u81, u82, u83, u84, u85, u86, u87, u88, u89, u90, u91, u92, u93, u94, u95, u96, u97, u98, u99, u100, u101, u102, u103, u104, u105, u106, u107, u108, u109, u110, u111, u112, u113, u114, u115, u116, u117, u118, u119, u120, u121, u122, u123, u124, u125, u126, u127, u128, u129, u130, u131, u132, u133, u134, u135, u136, u137], []⟩ w9 := by
  conv => arg 2; whnf
  let FT : Exit → Act → World → Prop := bodyPost Try.prog Try.f17 (fun _ _ => True)
  have HBB := Lib.hid (HB.out ra (by omega))
  have hkb : blankN P ra ≤ ra + 1 := by unfold blankN; split <;> omega
  obtain ⟨kb, hkb2⟩ : ∃ kb, blankN P ra = kb := ⟨_, rfl⟩
  rw [hkb2] at hkb HV3 HBB
  clear hkb2
  go_wp2_with fail
  refine (HBB.out w9 S9.k).mono ?_
  rintro e w10 ⟨rfl, kk⟩
  have S10 := S9.kept kk
  clear kk S9 HBB
  obtain ⟨K0, hK0⟩ : ∃ x, kindN P kb = x := ⟨_, rfl⟩
  have hk0 := HK.out kb
  rw [hK0] at hk0
  have HK0 := Lib.hid hK0
  have Hk0 := Lib.hid hk0
  clear hk0 hK0
  go_wp2_with fail
  refine (Hk0.out w10 S10.k).mono ?_
  rintro e w11 ⟨rfl, kk⟩
  have S11 := S10.kept kk
  clear kk S10 Hk0
  go_upto_if 101 with fail
  go_cut [9] (fun s wx => ∃ (k2 : Nat) (sb : Prt), s = .int .i64 (k2 : Int) ∧ k2 ≤ 100 ∧ Sx w1 wx g6 g8 (hdA nm pb sy sb false) ∧ Hid (finN P nm pb sy sb k2 = V))
  case first =>
    by_cases q5 : K0 = 5
    rotate_left
    · have dK : (K0 == 5) = false := by simpa using q5
      have HE : Hid (finN P nm pb sy Prt.none_ kb = V) := by
        unfold Hid
        rw [← HV3.out]
        unfold docIn
        rw [HK0.out, if_neg q5]
      go_wp2_with fail
      go_meet
      exact ⟨kb, Prt.none_, rfl, by omega, S11, HE⟩
    subst q5
    obtain ⟨ka, hka⟩ : ∃ ka, kb + 1 = ka := ⟨_, rfl⟩
    obtain ⟨kc, hkc⟩ : ∃ kc, kb + 2 = kc := ⟨_, rfl⟩
    have ws1 : IntKind.i64.wrap ((kb : Int) + 1) = (ka : Int) := by rw [IntWalk.i64_in _ (by omega)]; omega
    have ws2 : IntKind.i64.wrap ((ka : Int) + 1) = (kc : Int) := by rw [IntWalk.i64_in _ (by omega)]; omega
    obtain ⟨K1, hK1⟩ : ∃ x, kindN P ka = x := ⟨_, rfl⟩
    have hk1 := HK.out ka
    rw [hK1] at hk1
    have Hk1 := Lib.hid hk1
    have HK1 := Lib.hid hK1
    have HV4 : Hid ((if K1 = 6 then (if kindN P kc = 5 then finN P nm pb sy (nthP P ka) (blankN P (kc + 1)) else Hd.none_)
    else if kindN P ka = 5 then finN P nm pb sy Prt.none_ (blankN P (ka + 1)) else Hd.none_) = V) := by
      unfold Hid
      rw [← HV3.out]
      unfold docIn
      rw [HK0.out, if_pos rfl, ← hka, ← hkc, ← hK1, ← hka]
    have hkc20 : kc ≤ 20 := by omega
    have hka20 : ka ≤ 20 := by omega
    clear hk1 hK1 hka hkc HK0 HV3
    go_wp2_with fail
    refine (Hk1.out w11 S11.k).mono ?_
    rintro e w12 ⟨rfl, kk⟩
    have S12 := S11.kept kk
    clear kk S11 Hk1
    go_upto_if 107 with fail
    go_cut [9] (fun s wx => ∃ (k3 : Nat) (sb : Prt), s = .int .i64 (k3 : Int) ∧ k3 ≤ 20 ∧ Sx w1 wx g6 g8 (hdA nm pb sy sb false) ∧ Hid ((if kindN P k3 = 5 then finN P nm pb sy sb (blankN P (k3 + 1)) else Hd.none_) = V))
    case first =>
      by_cases q6 : K1 = 6
      rotate_left
      · have dK : (K1 == 6) = false := by simpa using q6
        have HE := Lib.hid (show (if kindN P ka = 5 then finN P nm pb sy Prt.none_ (blankN P (ka + 1)) else Hd.none_) = V by rw [← HV4.out, if_neg q6])
        go_wp2_with fail
        go_meet
        exact ⟨ka, Prt.none_, rfl, hka20, S12, HE⟩
      have HE := Lib.hid (show (if kindN P kc = 5 then finN P nm pb sy (nthP P ka) (blankN P (kc + 1)) else Hd.none_) = V by rw [← HV4.out, if_pos q6])
      subst q6
      have hma : ka < m := by
        have h1 := kindN_lt (P := P) (k := ka) (by have := HK1.out; omega)
        have h2 := HM.out
        omega
      obtain ⟨sb, hsb⟩ : ∃ sb, nthP P ka = sb := ⟨_, rfl⟩
      have hca := HPC.out ka hma
      rw [hsb] at hca HE
      clear hsb
      go_upto_region 23 with fail
      have l1 : (0 : Int) ≤ ka := by omega
      have l2 : (ka : Int) < m := by omega
      have y0 : w12.cell? ⟨b, o + ka * 3, none⟩ = some (.int .i64 sb.k) := S12.k.cell hca.1
      have y1 : w12.cell? ⟨b, o + ka * 3 + 1, none⟩ = some (.int .i64 sb.f) := S12.k.cell hca.2.1
      have y2 : w12.cell? ⟨b, o + ka * 3 + 2, none⟩ = some (.int .i64 sb.t) := S12.k.cell hca.2.2
      have hcx := S12.b.cell
      have z0 : w12.cell? ⟨g8, 9, none⟩ = some (.int .i64 Prt.none_.k) := hcx 9
      have z1 : w12.cell? ⟨g8, 10, none⟩ = some (.int .i64 Prt.none_.f) := hcx 10
      have z2 : w12.cell? ⟨g8, 11, none⟩ = some (.int .i64 Prt.none_.t) := hcx 11
      have zf := S12.b.frozen
      have zl := S12.b.lt
      clear hcx
      go_upto_region 24 with fail
      refine wp_named ?_
      intro w13 hwn
      have S13 : Sx w1 w13 g6 g8 (hdA nm pb sy sb false) := by
        rw [hwn]
        have RR := ((S12.set 9 (.int .i64 sb.k)).set 10 (.int .i64 sb.f)).set 11 (.int .i64 sb.t)
        exact RR
      clear hwn y0 y1 y2 z0 z1 z2 zf zl S12
      go_wp2_with fail
      go_meet
      exact ⟨kc, sb, rfl, hkc20, S13, HE⟩
    case rest =>
    obtain ⟨k3, sb, rfl, hk3, S13, HE⟩ := hcut
    obtain ⟨w13, hw13⟩ : ∃ z, z = wc := ⟨_, rfl⟩
    subst hw13
    obtain ⟨K2, hK2⟩ : ∃ x, kindN P k3 = x := ⟨_, rfl⟩
    have hk2 := HK.out k3
    rw [hK2] at hk2 HE
    have Hk2 := Lib.hid hk2
    clear hk2 hK2 ws1 ws2 S12 HK1 HV4
    by_cases q5 : K2 = 5
    rotate_left
    · have dK5 : (K2 == 5) = false := by simpa using q5
      have HF := Lib.hid (show Hd.none_ = V by rw [← HE.out, if_neg q5])
      go_wp2_with fail
      refine (Hk2.out w13 S13.k).mono ?_
      rintro e w14 ⟨rfl, kk⟩
      have S14 := S13.kept kk
      clear kk
      have HVV := Lib.hid (show V = Hd.none_ by exact HF.out.symm)
      go_upto_region 26 with fail
      go_cut [] (fun wx => Blk wx g6 #[.int .i64 0, .int .i64 0, .int .i64 0, .int .i64 0, .int .i64 0, .int .i64 0, .int .i64 0, .int .i64 0, .int .i64 0, .int .i64 0, .int .i64 0, .int .i64 0, .bool false] 38 ∧ Kept w wx)
      case first =>
        have bcz := S14.z.cell
        have z0 : w14.cell? ⟨g6, 0, none⟩ = some (.int .i64 0) := bcz 0
        have z1 : w14.cell? ⟨g6, 1, none⟩ = some (.int .i64 0) := bcz 1
        have z2 : w14.cell? ⟨g6, 2, none⟩ = some (.int .i64 0) := bcz 2
        have z3 : w14.cell? ⟨g6, 3, none⟩ = some (.int .i64 0) := bcz 3
        have z4 : w14.cell? ⟨g6, 4, none⟩ = some (.int .i64 0) := bcz 4
        have z5 : w14.cell? ⟨g6, 5, none⟩ = some (.int .i64 0) := bcz 5
        have z6 : w14.cell? ⟨g6, 6, none⟩ = some (.int .i64 0) := bcz 6
        have z7 : w14.cell? ⟨g6, 7, none⟩ = some (.int .i64 0) := bcz 7
        have z8 : w14.cell? ⟨g6, 8, none⟩ = some (.int .i64 0) := bcz 8
        have z9 : w14.cell? ⟨g6, 9, none⟩ = some (.int .i64 0) := bcz 9
        have z10 : w14.cell? ⟨g6, 10, none⟩ = some (.int .i64 0) := bcz 10
        have z11 : w14.cell? ⟨g6, 11, none⟩ = some (.int .i64 0) := bcz 11
        have z12 : w14.cell? ⟨g6, 12, none⟩ = some (.bool false) := bcz 12
        clear bcz
        have zf := S14.z.frozen
        have zl := S14.z.lt
        go_wp2_with fail
        go_meet
        exact ⟨blk_setH S14.z (.int .i64 0) (.int .i64 0) (.int .i64 0) (.int .i64 0) (.int .i64 0) (.int .i64 0) (.int .i64 0) (.int .i64 0) (.int .i64 0) (.int .i64 0) (.int .i64 0) (.int .i64 0) (.bool false), kept_setH (HKW.out.trans S14.k) HG.out (.int .i64 0) (.int .i64 0) (.int .i64 0) (.int .i64 0) (.int .i64 0) (.int .i64 0) (.int .i64 0) (.int .i64 0) (.int .i64 0) (.int .i64 0) (.int .i64 0) (.int .i64 0) (.bool false)⟩
      case rest =>
        obtain ⟨bN, kN⟩ := hcut
        have cN := bN.cell
        have d0 := cN 0
        have d1 := cN 1
        have d2 := cN 2
        have d3 := cN 3
        have d4 := cN 4
        have d5 := cN 5
        have d6 := cN 6
        have d7 := cN 7
        have d8 := cN 8
        have d9 := cN 9
        have d10 := cN 10
        have d11 := cN 11
        have d12 := cN 12
        clear cN
        go_wp2_with fail
        refine HQ0.out _ _ _ ?_
        exact bodyPost_ret (v := .agg #[.int .i64 0, .int .i64 0, .int .i64 0, .int .i64 0, .int .i64 0, .int .i64 0, .int .i64 0, .int .i64 0, .int .i64 0, .int .i64 0, .int .i64 0, .int .i64 0, .bool false]) (by simp [results, Try.results17, go_sem, d0, d1, d2, d3, d4, d5, d6, d7, d8, d9, d10, d11, d12]) rfl ⟨by rw [HVV.out]; rfl, kN⟩
    subst q5
    obtain ⟨kd, hkd⟩ : ∃ kd, k3 + 1 = kd := ⟨_, rfl⟩
    have ws1 : IntKind.i64.wrap ((k3 : Int) + 1) = (kd : Int) := by rw [IntWalk.i64_in _ (by omega)]; omega
    have HF := Lib.hid (show finN P nm pb sy sb (blankN P kd) = V by rw [← HE.out, if_pos rfl, hkd])
    have HBB := Lib.hid (HB.out kd (by omega))
    have hkb : blankN P kd ≤ kd + 1 := by unfold blankN; split <;> omega
    obtain ⟨ke, hke⟩ : ∃ ke, blankN P kd = ke := ⟨_, rfl⟩
    rw [hke] at hkb HF HBB
    have hke100 : ke ≤ 100 := by omega
    clear hke hkd
    go_wp2_with fail
    refine (Hk2.out w13 S13.k).mono ?_
    rintro e w14 ⟨rfl, kk⟩
    have S14 := S13.kept kk
    clear kk
    go_wp2_with fail
    refine (HBB.out w14 S14.k).mono ?_
    rintro e w15 ⟨rfl, kk⟩
    have S15 := S14.kept kk
    clear kk
    go_wp2_with fail
    go_meet
    exact ⟨ke, sb, rfl, hke100, S15, HF⟩
  case rest =>
  obtain ⟨k2, sb, rfl, hk2, S12, HE⟩ := hcut
  obtain ⟨w12, hw12⟩ : ∃ z, z = wc := ⟨_, rfl⟩
  subst hw12
  obtain ⟨K2, hK2⟩ : ∃ x, kindN P k2 = x := ⟨_, rfl⟩
  have hkn := HK.out k2
  rw [hK2] at hkn
  have Hkn := Lib.hid hkn
  have HKN := Lib.hid hK2
  have ws1 : IntKind.i64.wrap ((k2 : Int) + 1) = (k2 : Int) + 1 := IntWalk.i64_in _ (by omega)
  clear hkn hK2 S11 HK0 HV3
  go_upto_region 28 with fail
  obtain ⟨T, hT⟩ : ∃ T, decide (¬ (K2 = 7 ∧ k2 + 1 = m)) = T := ⟨_, rfl⟩
  have HT := Lib.hid hT
  clear hT
  go_cut [134] (fun s wx => s = .bool T ∧ Sx w1 wx g6 g8 (hdA nm pb sy sb false))
  case first =>
    by_cases q7 : K2 = 7
    rotate_left
    · have dK5 : (K2 == 7) = false := by simpa using q7
      have Q7 := Lib.hid q7
      go_wp2_with fail
      refine (Hkn.out w12 S12.k).mono ?_
      rintro e w13 ⟨rfl, kk⟩
      have S13 := S12.kept kk
      clear kk
      have hTT : T = true := by rw [← HT.out]; exact decide_eq_true (fun e => Q7.out e.1)
      go_wp2_with fail
      go_meet
      rw [hTT]
      exact ⟨by first | rfl | (simp [bne, dK5]; done), S13⟩
    subst q7
    by_cases qm : k2 + 1 = m
    rotate_left
    · have l1 : ¬ (k2 : Int) + 1 = m := by omega
      have l2 : ((k2 : Int) + 1 == m) = false := by simpa using l1
      have QM := Lib.hid qm
      go_wp2_with fail
      refine (Hkn.out w12 S12.k).mono ?_
      rintro e w13 ⟨rfl, kk⟩
      have S13 := S12.kept kk
      clear kk
      have hTT : T = true := by rw [← HT.out]; exact decide_eq_true (fun e => QM.out e.2)
      go_wp2_with fail
      go_meet
      rw [hTT]
      exact ⟨by first | rfl | (simp [bne]; omega) | (simp; omega), S13⟩
    have l1 : (k2 : Int) + 1 = m := by omega
    have QM := Lib.hid qm
    clear qm
    go_wp2_with fail
    refine (Hkn.out w12 S12.k).mono ?_
    rintro e w13 ⟨rfl, kk⟩
    have S13 := S12.kept kk
    clear kk
    have hTT : T = false := by rw [← HT.out]; exact decide_eq_false (by simp [QM.out])
    go_wp2_with fail
    go_meet
    rw [hTT]
    exact ⟨by first | rfl | (simp [bne]; omega) | (simp; omega), S13⟩
  case rest =>
  obtain ⟨rfl, S13⟩ := hcut
  obtain ⟨w13, hww⟩ : ∃ z, z = wc := ⟨_, rfl⟩
  subst hww
  clear S12 Hkn ws1
  cases T
  rotate_left
  · have h1 := of_decide_eq_true HT.out
    have HF := Lib.hid (show Hd.none_ = V by rw [← HE.out]; unfold finN; rw [HKN.out, ← HM.out, if_neg h1])
    have HVV := Lib.hid (show V = Hd.none_ by exact HF.out.symm)
    go_upto_region 29 with fail
    go_cut [] (fun wx => Blk wx g6 #[.int .i64 0, .int .i64 0, .int .i64 0, .int .i64 0, .int .i64 0, .int .i64 0, .int .i64 0, .int .i64 0, .int .i64 0, .int .i64 0, .int .i64 0, .int .i64 0, .bool false] 38 ∧ Kept w wx)
    case first =>
      have bcz := S13.z.cell
      have z0 : w13.cell? ⟨g6, 0, none⟩ = some (.int .i64 0) := bcz 0
      have z1 : w13.cell? ⟨g6, 1, none⟩ = some (.int .i64 0) := bcz 1
      have z2 : w13.cell? ⟨g6, 2, none⟩ = some (.int .i64 0) := bcz 2
      have z3 : w13.cell? ⟨g6, 3, none⟩ = some (.int .i64 0) := bcz 3
      have z4 : w13.cell? ⟨g6, 4, none⟩ = some (.int .i64 0) := bcz 4
      have z5 : w13.cell? ⟨g6, 5, none⟩ = some (.int .i64 0) := bcz 5
      have z6 : w13.cell? ⟨g6, 6, none⟩ = some (.int .i64 0) := bcz 6
      have z7 : w13.cell? ⟨g6, 7, none⟩ = some (.int .i64 0) := bcz 7
      have z8 : w13.cell? ⟨g6, 8, none⟩ = some (.int .i64 0) := bcz 8
      have z9 : w13.cell? ⟨g6, 9, none⟩ = some (.int .i64 0) := bcz 9
      have z10 : w13.cell? ⟨g6, 10, none⟩ = some (.int .i64 0) := bcz 10
      have z11 : w13.cell? ⟨g6, 11, none⟩ = some (.int .i64 0) := bcz 11
      have z12 : w13.cell? ⟨g6, 12, none⟩ = some (.bool false) := bcz 12
      clear bcz
      have zf := S13.z.frozen
      have zl := S13.z.lt
      go_wp2_with fail
      go_meet
      exact ⟨blk_setH S13.z (.int .i64 0) (.int .i64 0) (.int .i64 0) (.int .i64 0) (.int .i64 0) (.int .i64 0) (.int .i64 0) (.int .i64 0) (.int .i64 0) (.int .i64 0) (.int .i64 0) (.int .i64 0) (.bool false), kept_setH (HKW.out.trans S13.k) HG.out (.int .i64 0) (.int .i64 0) (.int .i64 0) (.int .i64 0) (.int .i64 0) (.int .i64 0) (.int .i64 0) (.int .i64 0) (.int .i64 0) (.int .i64 0) (.int .i64 0) (.int .i64 0) (.bool false)⟩
    case rest =>
      obtain ⟨bN, kN⟩ := hcut
      have cN := bN.cell
      have d0 := cN 0
      have d1 := cN 1
      have d2 := cN 2
      have d3 := cN 3
      have d4 := cN 4
      have d5 := cN 5
      have d6 := cN 6
      have d7 := cN 7
      have d8 := cN 8
      have d9 := cN 9
      have d10 := cN 10
      have d11 := cN 11
      have d12 := cN 12
      clear cN
      go_wp2_with fail
      refine HQ0.out _ _ _ ?_
      exact bodyPost_ret (v := .agg #[.int .i64 0, .int .i64 0, .int .i64 0, .int .i64 0, .int .i64 0, .int .i64 0, .int .i64 0, .int .i64 0, .int .i64 0, .int .i64 0, .int .i64 0, .int .i64 0, .bool false]) (by simp [results, Try.results17, go_sem, d0, d1, d2, d3, d4, d5, d6, d7, d8, d9, d10, d11, d12]) rfl ⟨by rw [HVV.out]; rfl, kN⟩
  have h7 := Decidable.not_not.1 (of_decide_eq_false HT.out)
  have HF := Lib.hid (show Hd.mk nm pb sy sb true = V by rw [← HE.out]; unfold finN; rw [HKN.out, ← HM.out, if_pos h7])
  clear h7 HT
  go_upto_region 30 with fail
  have hcx := S13.b.cell
  have z0 : w13.cell? ⟨g8, 12, none⟩ = some (.bool false) := hcx 12
  have zf := S13.b.frozen
  have zl := S13.b.lt
  clear hcx
  go_upto_region 31 with fail
  refine wp_named ?_
  intro w14 hwn
  have S14 : Sx w1 w14 g6 g8 (hdA nm pb sy sb true) := by
    rw [hwn]
    have RR := S13.set 12 (.bool true)
    exact RR
  clear hwn z0 zf zl S13
  go_upto_region 31 with fail
  go_cut [] (fun wx => Blk wx g6 #[.int .i64 nm.k, .int .i64 nm.f, .int .i64 nm.t, .int .i64 pb.k, .int .i64 pb.f, .int .i64 pb.t, .int .i64 sy.k, .int .i64 sy.f, .int .i64 sy.t, .int .i64 sb.k, .int .i64 sb.f, .int .i64 sb.t, .bool true] 38 ∧ Kept w wx)
  case first =>
    have bcz := S14.z.cell
    have z0 : w14.cell? ⟨g6, 0, none⟩ = some (.int .i64 0) := bcz 0
    have z1 : w14.cell? ⟨g6, 1, none⟩ = some (.int .i64 0) := bcz 1
    have z2 : w14.cell? ⟨g6, 2, none⟩ = some (.int .i64 0) := bcz 2
    have z3 : w14.cell? ⟨g6, 3, none⟩ = some (.int .i64 0) := bcz 3
    have z4 : w14.cell? ⟨g6, 4, none⟩ = some (.int .i64 0) := bcz 4
    have z5 : w14.cell? ⟨g6, 5, none⟩ = some (.int .i64 0) := bcz 5
    have z6 : w14.cell? ⟨g6, 6, none⟩ = some (.int .i64 0) := bcz 6
    have z7 : w14.cell? ⟨g6, 7, none⟩ = some (.int .i64 0) := bcz 7
    have z8 : w14.cell? ⟨g6, 8, none⟩ = some (.int .i64 0) := bcz 8
    have z9 : w14.cell? ⟨g6, 9, none⟩ = some (.int .i64 0) := bcz 9
    have z10 : w14.cell? ⟨g6, 10, none⟩ = some (.int .i64 0) := bcz 10
    have z11 : w14.cell? ⟨g6, 11, none⟩ = some (.int .i64 0) := bcz 11
    have z12 : w14.cell? ⟨g6, 12, none⟩ = some (.bool false) := bcz 12
    clear bcz
    have zf := S14.z.frozen
    have zl := S14.z.lt
    have bch := S14.b.cell
    have y0 : w14.cell? ⟨g8, 0, none⟩ = some (.int .i64 nm.k) := bch 0
    have y1 : w14.cell? ⟨g8, 1, none⟩ = some (.int .i64 nm.f) := bch 1
    have y2 : w14.cell? ⟨g8, 2, none⟩ = some (.int .i64 nm.t) := bch 2
    have y3 : w14.cell? ⟨g8, 3, none⟩ = some (.int .i64 pb.k) := bch 3
    have y4 : w14.cell? ⟨g8, 4, none⟩ = some (.int .i64 pb.f) := bch 4
    have y5 : w14.cell? ⟨g8, 5, none⟩ = some (.int .i64 pb.t) := bch 5
    have y6 : w14.cell? ⟨g8, 6, none⟩ = some (.int .i64 sy.k) := bch 6
    have y7 : w14.cell? ⟨g8, 7, none⟩ = some (.int .i64 sy.f) := bch 7
    have y8 : w14.cell? ⟨g8, 8, none⟩ = some (.int .i64 sy.t) := bch 8
    have y9 : w14.cell? ⟨g8, 9, none⟩ = some (.int .i64 sb.k) := bch 9
    have y10 : w14.cell? ⟨g8, 10, none⟩ = some (.int .i64 sb.f) := bch 10
    have y11 : w14.cell? ⟨g8, 11, none⟩ = some (.int .i64 sb.t) := bch 11
    have y12 : w14.cell? ⟨g8, 12, none⟩ = some (.bool true) := bch 12
    clear bch
    have yf := S14.b.frozen
    have yl := S14.b.lt
    go_wp2_with fail
    go_meet
    exact ⟨blk_setH S14.z (.int .i64 nm.k) (.int .i64 nm.f) (.int .i64 nm.t) (.int .i64 pb.k) (.int .i64 pb.f) (.int .i64 pb.t) (.int .i64 sy.k) (.int .i64 sy.f) (.int .i64 sy.t) (.int .i64 sb.k) (.int .i64 sb.f) (.int .i64 sb.t) (.bool true), kept_setH (HKW.out.trans S14.k) HG.out (.int .i64 nm.k) (.int .i64 nm.f) (.int .i64 nm.t) (.int .i64 pb.k) (.int .i64 pb.f) (.int .i64 pb.t) (.int .i64 sy.k) (.int .i64 sy.f) (.int .i64 sy.t) (.int .i64 sb.k) (.int .i64 sb.f) (.int .i64 sb.t) (.bool true)⟩
  case rest =>
    obtain ⟨bN, kN⟩ := hcut
    have cN := bN.cell
    have d0 := cN 0
    have d1 := cN 1
    have d2 := cN 2
    have d3 := cN 3
    have d4 := cN 4
    have d5 := cN 5
    have d6 := cN 6
    have d7 := cN 7
    have d8 := cN 8
    have d9 := cN 9
    have d10 := cN 10
    have d11 := cN 11
    have d12 := cN 12
    clear cN
    go_wp2_with fail
    refine HQ0.out _ _ _ ?_
    exact bodyPost_ret (v := .agg #[.int .i64 nm.k, .int .i64 nm.f, .int .i64 nm.t, .int .i64 pb.k, .int .i64 pb.f, .int .i64 pb.t, .int .i64 sy.k, .int .i64 sy.f, .int .i64 sy.t, .int .i64 sb.k, .int .i64 sb.f, .int .i64 sb.t, .bool true]) (by simp [results, Try.results17, go_sem, d0, d1, d2, d3, d4, d5, d6, d7, d8, d9, d10, d11, d12]) rfl ⟨by rw [← HF.out]; rfl, kN⟩

set_option maxRecDepth 8000 in
set_option maxHeartbeats 8000000 in
theorem rread_any (A : Option Addr) (n c : Nat) (l : List Int) (f t : Int) (w : World) (h : Sl w 1 A n c (l.map (Value.int .i32))) (hn : n ≤ 100000) (hr : Rn l) (hok : PartsOk n (partL l f t)) :
    Calls Try.prog 17 #[.slice A n c, .int .i64 f, .int .i64 t] w fun e w' => e = .returned (docF l (partL l f t)).val ∧ Kept w w' := by
  have hlen := parts_len l f t
  rw [h.llen1] at hlen
  have HPT := Lib.hid (fun w' (kk : Kept w w') => rparts_any A n c l f t w' (h.kept kk) (by omega) hr)
  generalize partL l f t = P at hlen hok HPT ⊢
  clear hr
  obtain ⟨V, hV⟩ : ∃ V, docF l P = V := ⟨_, rfl⟩
  rw [hV]
  have HV := Lib.hid hV
  clear hV
  go_enter Try.func17, Try.ntmps17
  refine wp_end ?_
  intro QE HQ0
  let FT : Exit → Act → World → Prop := bodyPost Try.prog Try.f17 (fun _ _ => True)
  go_wp2_with fail
  have B0 : Blk (w.alloc (.cells zhd 38)) w.heap.size zhd 38 := Blk.new w _ _
  have k0 : Kept w (w.alloc (.cells zhd 38)) := (Kept.refl w).alloc _
  refine (HPT.out _ k0).mono ?_
  rintro e w1 ⟨A1, m, c1, hm, rfl, hS, k1⟩
  have B1 := B0.kept k1
  have K1 := k0.trans k1
  have hl1 := h.kept K1
  generalize w.alloc (.cells zhd 38) = wz at B0 k0 k1
  obtain ⟨g6, hg⟩ : ∃ g6, w.heap.size = g6 := ⟨_, rfl⟩
  have HG := Lib.hid (show w.heap.size ≤ g6 by omega)
  rw [hg] at B1 ⊢
  clear B0 k0 k1 wz hg HPT h
  have HKW := Lib.hid K1
  have HM := Lib.hid hm
  have hm1 : m ≤ 1000000 := by omega
  have hw : ∀ (k : Nat) w', Kept w1 w' → Calls Try.prog 34 #[.slice A1 m c1, .int .i64 ((k : Nat) : Int)] w' fun e w'' => e = .returned (.int .i64 (kindN P k)) ∧ Kept w' w'' := fun k w' kk => rkind_any A1 m c1 P k w' (hS.kept kk) hm1
  have hwb : ∀ (k : Nat), k ≤ 1000 → ∀ w', Kept w1 w' → Calls Try.prog 37 #[.slice A1 m c1, .int .i64 ((k : Nat) : Int)] w' fun e w'' => e = .returned (.int .i64 (blankN P k)) ∧ Kept w' w'' := fun k hk w' kk => rblank_any A1 m c1 P k w' (hS.kept kk) hm1 (by omega)
  have HB := Lib.hid hwb
  have H0 : Hid (∀ w', Kept w1 w' → Calls Try.prog 34 #[.slice A1 m c1, .int .i64 0] w' fun e w'' => e = .returned (.int .i64 (kindN P 0)) ∧ Kept w' w'') := Lib.hid (hw 0)
  have H1 : Hid (∀ w', Kept w1 w' → Calls Try.prog 34 #[.slice A1 m c1, .int .i64 1] w' fun e w'' => e = .returned (.int .i64 (kindN P 1)) ∧ Kept w' w'') := Lib.hid (hw 1)
  have H2 : Hid (∀ w', Kept w1 w' → Calls Try.prog 34 #[.slice A1 m c1, .int .i64 2] w' fun e w'' => e = .returned (.int .i64 (kindN P 2)) ∧ Kept w' w'') := Lib.hid (hw 2)
  have H3 : Hid (∀ w', Kept w1 w' → Calls Try.prog 34 #[.slice A1 m c1, .int .i64 3] w' fun e w'' => e = .returned (.int .i64 (kindN P 3)) ∧ Kept w' w'') := Lib.hid (hw 3)
  have H4 : Hid (∀ w', Kept w1 w' → Calls Try.prog 34 #[.slice A1 m c1, .int .i64 4] w' fun e w'' => e = .returned (.int .i64 (kindN P 4)) ∧ Kept w' w'') := Lib.hid (hw 4)
  have H5 : Hid (∀ w', Kept w1 w' → Calls Try.prog 34 #[.slice A1 m c1, .int .i64 5] w' fun e w'' => e = .returned (.int .i64 (kindN P 5)) ∧ Kept w' w'') := Lib.hid (hw 5)
  have H6 : Hid (∀ w', Kept w1 w' → Calls Try.prog 34 #[.slice A1 m c1, .int .i64 6] w' fun e w'' => e = .returned (.int .i64 (kindN P 6)) ∧ Kept w' w'') := Lib.hid (hw 6)
  have H7 : Hid (∀ w', Kept w1 w' → Calls Try.prog 34 #[.slice A1 m c1, .int .i64 7] w' fun e w'' => e = .returned (.int .i64 (kindN P 7)) ∧ Kept w' w'') := Lib.hid (hw 7)
  have H8 : Hid (∀ w', Kept w1 w' → Calls Try.prog 34 #[.slice A1 m c1, .int .i64 8] w' fun e w'' => e = .returned (.int .i64 (kindN P 8)) ∧ Kept w' w'') := Lib.hid (hw 8)
  have HK := Lib.hid hw
  have HOK := Lib.hid hok
  have HL := Lib.hid hl1
  have HS := Lib.hid hS
  clear hm hw hwb hok hlen hS
  go_upto_region 3 with fail
  refine wp_named ?_
  intro w2 hw2
  obtain ⟨g8, hg8⟩ : ∃ g8, w1.heap.size = g8 := ⟨_, rfl⟩
  have S2 : Sx w1 w2 g6 g8 zhd := by
    rw [hw2, ← hg8]
    exact ⟨(Kept.refl w1).alloc _, Blk.new w1 _ _, B1.alloc _, Nat.le_refl _, B1.lt⟩
  rw [hg8]
  clear hw2 hg8 B1 K1
  obtain ⟨T, hT⟩ : ∃ T, decide (¬ (kindN P 0 = 1 ∧ kindN P 1 = 3 ∧ kindN P 2 = 2)) = T := ⟨_, rfl⟩
  have HT := Lib.hid hT
  clear hT
  go_cut [28] (fun s wx => s = .bool T ∧ Sx w1 wx g6 g8 (zhd))
  case first =>
    by_cases q0 : kindN P 0 = 1
    rotate_left
    · have Q0 := Lib.hid q0
      obtain ⟨K, hK⟩ : ∃ x, kindN P 0 = x := ⟨_, rfl⟩
      rw [hK] at H0 q0
      have dK : (K == 1) = false := by simpa using q0
      clear hK
      go_wp2_with fail
      refine (H0.out w2 S2.k).mono ?_
      rintro e w3 ⟨rfl, kk⟩
      have S3 := S2.kept kk
      clear kk
      have hTT : T = true := by rw [← HT.out]; exact decide_eq_true (fun e => Q0.out e.1)
      go_wp2_with fail
      go_meet
      rw [hTT]
      exact ⟨by first | rfl | (simp [bne, dK]; done), S3⟩
    rw [q0] at H0
    have Q0 := Lib.hid q0
    clear q0
    by_cases q1 : kindN P 1 = 3
    rotate_left
    · have Q1 := Lib.hid q1
      obtain ⟨K, hK⟩ : ∃ x, kindN P 1 = x := ⟨_, rfl⟩
      rw [hK] at H1 q1
      have dK : (K == 3) = false := by simpa using q1
      clear hK
      go_wp2_with fail
      refine (H0.out w2 S2.k).mono ?_
      rintro e w3 ⟨rfl, kk⟩
      have S3 := S2.kept kk
      clear kk
      go_wp2_with fail
      refine (H1.out w3 S3.k).mono ?_
      rintro e w4 ⟨rfl, kk⟩
      have S4 := S3.kept kk
      clear kk
      have hTT : T = true := by rw [← HT.out]; exact decide_eq_true (fun e => Q1.out e.2.1)
      go_wp2_with fail
      go_meet
      rw [hTT]
      exact ⟨by first | rfl | (simp [bne, dK]; done), S4⟩
    rw [q1] at H1
    have Q1 := Lib.hid q1
    clear q1
    by_cases q2 : kindN P 2 = 2
    rotate_left
    · have Q2 := Lib.hid q2
      obtain ⟨K, hK⟩ : ∃ x, kindN P 2 = x := ⟨_, rfl⟩
      rw [hK] at H2 q2
      have dK : (K == 2) = false := by simpa using q2
      clear hK
      go_wp2_with fail
      refine (H0.out w2 S2.k).mono ?_
      rintro e w3 ⟨rfl, kk⟩
      have S3 := S2.kept kk
      clear kk
      go_wp2_with fail
      refine (H1.out w3 S3.k).mono ?_
      rintro e w4 ⟨rfl, kk⟩
      have S4 := S3.kept kk
      clear kk
      go_wp2_with fail
      refine (H2.out w4 S4.k).mono ?_
      rintro e w5 ⟨rfl, kk⟩
      have S5 := S4.kept kk
      clear kk
      have hTT : T = true := by rw [← HT.out]; exact decide_eq_true (fun e => Q2.out e.2.2)
      go_wp2_with fail
      go_meet
      rw [hTT]
      exact ⟨by first | rfl | (simp [bne, dK]; done), S5⟩
    rw [q2] at H2
    have Q2 := Lib.hid q2
    clear q2
    go_wp2_with fail
    refine (H0.out w2 S2.k).mono ?_
    rintro e w3 ⟨rfl, kk⟩
    have S3 := S2.kept kk
    clear kk
    go_wp2_with fail
    refine (H1.out w3 S3.k).mono ?_
    rintro e w4 ⟨rfl, kk⟩
    have S4 := S3.kept kk
    clear kk
    go_wp2_with fail
    refine (H2.out w4 S4.k).mono ?_
    rintro e w5 ⟨rfl, kk⟩
    have S5 := S4.kept kk
    clear kk
    have hTT : T = false := by rw [← HT.out]; exact decide_eq_false (fun e => e ⟨Q0.out, Q1.out, Q2.out⟩)
    go_wp2_with fail
    go_meet
    rw [hTT]
    exact ⟨by first | rfl | (simp [bne, dK]; done), S5⟩
  case rest =>
  obtain ⟨rfl, S5⟩ := hcut
  obtain ⟨w5, hww⟩ : ∃ z, z = wc := ⟨_, rfl⟩
  subst hww
  cases T
  rotate_left
  · have h1 := of_decide_eq_true HT.out
    have HVV := Lib.hid (show V = Hd.none_ by rw [← HV.out]; unfold docF; rw [if_neg h1])
    go_upto_region 4 with fail
    go_cut [] (fun wx => Blk wx g6 #[.int .i64 0, .int .i64 0, .int .i64 0, .int .i64 0, .int .i64 0, .int .i64 0, .int .i64 0, .int .i64 0, .int .i64 0, .int .i64 0, .int .i64 0, .int .i64 0, .bool false] 38 ∧ Kept w wx)
    case first =>
      have bcz := S5.z.cell
      have z0 : w5.cell? ⟨g6, 0, none⟩ = some (.int .i64 0) := bcz 0
      have z1 : w5.cell? ⟨g6, 1, none⟩ = some (.int .i64 0) := bcz 1
      have z2 : w5.cell? ⟨g6, 2, none⟩ = some (.int .i64 0) := bcz 2
      have z3 : w5.cell? ⟨g6, 3, none⟩ = some (.int .i64 0) := bcz 3
      have z4 : w5.cell? ⟨g6, 4, none⟩ = some (.int .i64 0) := bcz 4
      have z5 : w5.cell? ⟨g6, 5, none⟩ = some (.int .i64 0) := bcz 5
      have z6 : w5.cell? ⟨g6, 6, none⟩ = some (.int .i64 0) := bcz 6
      have z7 : w5.cell? ⟨g6, 7, none⟩ = some (.int .i64 0) := bcz 7
      have z8 : w5.cell? ⟨g6, 8, none⟩ = some (.int .i64 0) := bcz 8
      have z9 : w5.cell? ⟨g6, 9, none⟩ = some (.int .i64 0) := bcz 9
      have z10 : w5.cell? ⟨g6, 10, none⟩ = some (.int .i64 0) := bcz 10
      have z11 : w5.cell? ⟨g6, 11, none⟩ = some (.int .i64 0) := bcz 11
      have z12 : w5.cell? ⟨g6, 12, none⟩ = some (.bool false) := bcz 12
      clear bcz
      have zf := S5.z.frozen
      have zl := S5.z.lt
      have bch := S5.b.cell
      have y0 : w5.cell? ⟨g8, 0, none⟩ = some (.int .i64 0) := bch 0
      have y1 : w5.cell? ⟨g8, 1, none⟩ = some (.int .i64 0) := bch 1
      have y2 : w5.cell? ⟨g8, 2, none⟩ = some (.int .i64 0) := bch 2
      have y3 : w5.cell? ⟨g8, 3, none⟩ = some (.int .i64 0) := bch 3
      have y4 : w5.cell? ⟨g8, 4, none⟩ = some (.int .i64 0) := bch 4
      have y5 : w5.cell? ⟨g8, 5, none⟩ = some (.int .i64 0) := bch 5
      have y6 : w5.cell? ⟨g8, 6, none⟩ = some (.int .i64 0) := bch 6
      have y7 : w5.cell? ⟨g8, 7, none⟩ = some (.int .i64 0) := bch 7
      have y8 : w5.cell? ⟨g8, 8, none⟩ = some (.int .i64 0) := bch 8
      have y9 : w5.cell? ⟨g8, 9, none⟩ = some (.int .i64 0) := bch 9
      have y10 : w5.cell? ⟨g8, 10, none⟩ = some (.int .i64 0) := bch 10
      have y11 : w5.cell? ⟨g8, 11, none⟩ = some (.int .i64 0) := bch 11
      have y12 : w5.cell? ⟨g8, 12, none⟩ = some (.bool false) := bch 12
      clear bch
      have yf := S5.b.frozen
      have yl := S5.b.lt
      go_wp2_with fail
      go_meet
      exact ⟨blk_setH S5.z (.int .i64 0) (.int .i64 0) (.int .i64 0) (.int .i64 0) (.int .i64 0) (.int .i64 0) (.int .i64 0) (.int .i64 0) (.int .i64 0) (.int .i64 0) (.int .i64 0) (.int .i64 0) (.bool false), kept_setH (HKW.out.trans S5.k) HG.out (.int .i64 0) (.int .i64 0) (.int .i64 0) (.int .i64 0) (.int .i64 0) (.int .i64 0) (.int .i64 0) (.int .i64 0) (.int .i64 0) (.int .i64 0) (.int .i64 0) (.int .i64 0) (.bool false)⟩
    case rest =>
      obtain ⟨bN, kN⟩ := hcut
      have cN := bN.cell
      have d0 := cN 0
      have d1 := cN 1
      have d2 := cN 2
      have d3 := cN 3
      have d4 := cN 4
      have d5 := cN 5
      have d6 := cN 6
      have d7 := cN 7
      have d8 := cN 8
      have d9 := cN 9
      have d10 := cN 10
      have d11 := cN 11
      have d12 := cN 12
      clear cN
      go_wp2_with fail
      refine HQ0.out _ _ _ ?_
      exact bodyPost_ret (v := .agg #[.int .i64 0, .int .i64 0, .int .i64 0, .int .i64 0, .int .i64 0, .int .i64 0, .int .i64 0, .int .i64 0, .int .i64 0, .int .i64 0, .int .i64 0, .int .i64 0, .bool false]) (by simp [results, Try.results17, go_sem, d0, d1, d2, d3, d4, d5, d6, d7, d8, d9, d10, d11, d12]) rfl ⟨by rw [HVV.out]; rfl, kN⟩
  have h012 : kindN P 0 = 1 ∧ kindN P 1 = 3 ∧ kindN P 2 = 2 := Decidable.not_not.1 (of_decide_eq_false HT.out)
  have Q0 := Lib.hid h012.1
  have Q1 := Lib.hid h012.2.1
  have Q2 := Lib.hid h012.2.2
  clear h012 HT H0 H1 H2 S2
  have hm2 : 2 < m := by
    have h1 := kindN_lt (P := P) (k := 2) (by have := Q2.out; omega)
    have h2 := HM.out
    omega
  obtain ⟨b, o, rfl, hat⟩ := HS.out.at_ (show 0 < m by omega)
  clear hat
  have HPC := Lib.hid (fun (k : Nat) (hk : k < m) => prt_at HS.out hm1 hk)
  obtain ⟨nm, hnm⟩ : ∃ nm, nthP P 2 = nm := ⟨_, rfl⟩
  have HNM := Lib.hid hnm
  have hc2 := HPC.out 2 hm2
  rw [hnm] at hc2
  obtain ⟨p6, p7, p8⟩ := hc2
  have y6 : w5.cell? ⟨b, o + 6, none⟩ = some (.int .i64 nm.k) := S5.k.cell p6
  have y7 : w5.cell? ⟨b, o + 7, none⟩ = some (.int .i64 nm.f) := S5.k.cell p7
  have y8 : w5.cell? ⟨b, o + 8, none⟩ = some (.int .i64 nm.t) := S5.k.cell p8
  have hcx := S5.b.cell
  have z0 : w5.cell? ⟨g8, 0, none⟩ = some (.int .i64 0) := hcx 0
  have z1 : w5.cell? ⟨g8, 1, none⟩ = some (.int .i64 0) := hcx 1
  have z2 : w5.cell? ⟨g8, 2, none⟩ = some (.int .i64 0) := hcx 2
  have zf := S5.b.frozen
  have zl := S5.b.lt
  clear hcx p6 p7 p8 hnm
  go_upto_region 7 with fail
  refine wp_named ?_
  intro w6 hw6
  have S6 : Sx w1 w6 g6 g8 (hdA nm Prt.none_ Prt.none_ Prt.none_ false) := by
    rw [hw6]
    have RR := ((S5.set 0 (.int .i64 nm.k)).set 1 (.int .i64 nm.f)).set 2 (.int .i64 nm.t)
    exact RR
  clear hw6 y6 y7 y8 z0 z1 z2 zf zl S5
  obtain ⟨R, hR⟩ : ∃ R, docOut l P = R := ⟨_, rfl⟩
  have HR := Lib.hid hR
  have HV2 : Hid ((if R.ok = true then docIn P nm R.pb R.sy (blankN P R.a) else Hd.none_) = V) := by
    unfold Hid
    rw [← HV.out, ← HNM.out]
    unfold docF
    rw [if_pos (show _ ∧ _ ∧ _ from ⟨Q0.out, Q1.out, Q2.out⟩), hR]
  clear hR
  obtain ⟨T, hT⟩ : ∃ T, decide (kindN P 3 = 3 ∧ kindN P 4 = 2) = T := ⟨_, rfl⟩
  have HT := Lib.hid hT
  clear hT
  go_cut [41] (fun s wx => s = .bool T ∧ Sx w1 wx g6 g8 (hdA nm Prt.none_ Prt.none_ Prt.none_ false))
  case first =>
    by_cases q3 : kindN P 3 = 3
    rotate_left
    · have Q3 := Lib.hid q3
      obtain ⟨K, hK⟩ : ∃ x, kindN P 3 = x := ⟨_, rfl⟩
      rw [hK] at H3 q3
      have dK : (K == 3) = false := by simpa using q3
      clear hK
      go_wp2_with fail
      refine (H3.out w6 S6.k).mono ?_
      rintro e w7 ⟨rfl, kk⟩
      have S7 := S6.kept kk
      clear kk
      have hTT : T = false := by rw [← HT.out]; exact decide_eq_false (fun e => Q3.out e.1)
      go_wp2_with fail
      go_meet
      rw [hTT]
      exact ⟨by first | rfl | (simp [bne, dK]; done), S7⟩
    rw [q3] at H3
    have Q3 := Lib.hid q3
    clear q3
    by_cases q4 : kindN P 4 = 2
    rotate_left
    · have Q4 := Lib.hid q4
      obtain ⟨K, hK⟩ : ∃ x, kindN P 4 = x := ⟨_, rfl⟩
      rw [hK] at H4 q4
      have dK : (K == 2) = false := by simpa using q4
      clear hK
      go_wp2_with fail
      refine (H3.out w6 S6.k).mono ?_
      rintro e w7 ⟨rfl, kk⟩
      have S7 := S6.kept kk
      clear kk
      go_wp2_with fail
      refine (H4.out w7 S7.k).mono ?_
      rintro e w8 ⟨rfl, kk⟩
      have S8 := S7.kept kk
      clear kk
      have hTT : T = false := by rw [← HT.out]; exact decide_eq_false (fun e => Q4.out e.2)
      go_wp2_with fail
      go_meet
      rw [hTT]
      exact ⟨by first | rfl | (simp [bne, dK]; done), S8⟩
    rw [q4] at H4
    have Q4 := Lib.hid q4
    clear q4
    go_wp2_with fail
    refine (H3.out w6 S6.k).mono ?_
    rintro e w7 ⟨rfl, kk⟩
    have S7 := S6.kept kk
    clear kk
    go_wp2_with fail
    refine (H4.out w7 S7.k).mono ?_
    rintro e w8 ⟨rfl, kk⟩
    have S8 := S7.kept kk
    clear kk
    have hTT : T = true := by rw [← HT.out]; exact decide_eq_true ⟨Q3.out, Q4.out⟩
    go_wp2_with fail
    go_meet
    rw [hTT]
    exact ⟨by first | rfl | (simp [bne, dK]; done), S8⟩
  case rest =>
  obtain ⟨rfl, S8⟩ := hcut
  obtain ⟨w8, hww⟩ : ∃ z, z = wc := ⟨_, rfl⟩
  subst hww
  clear H3 H4
  go_upto_if 41 with fail
  go_cut [9] (fun s wx => s = .int .i64 ((R.a : Nat) : Int) ∧ R.a ≤ 9 ∧ Hid (R.ok = true) ∧ Sx w1 wx g6 g8 (hdA nm R.pb R.sy Prt.none_ false))
  case first =>
    cases T
    · have hRR : R = ⟨true, 3, Prt.none_, Prt.none_⟩ := by rw [← HR.out]; unfold docOut; rw [if_neg (of_decide_eq_false HT.out)]
      go_wp2_with fail
      go_meet
      rw [hRR]
      exact ⟨rfl, by decide, rfl, S8⟩
    have h34 : kindN P 3 = 3 ∧ kindN P 4 = 2 := of_decide_eq_true HT.out
    have Q3 := Lib.hid h34.1
    have Q4 := Lib.hid h34.2
    clear h34 HT
    have hm4 : 4 < m := by
      have h1 := kindN_lt (P := P) (k := 4) (by have := Q4.out; omega)
      have h2 := HM.out
      omega
    obtain ⟨t4, ht4⟩ : ∃ t4, nthP P 4 = t4 := ⟨_, rfl⟩
    have hc4 := HPC.out 4 hm4
    rw [ht4] at hc4
    obtain ⟨p6, p7, p8⟩ := hc4
    have y6 : w8.cell? ⟨b, o + 12, none⟩ = some (.int .i64 t4.k) := S8.k.cell p6
    have y7 : w8.cell? ⟨b, o + 13, none⟩ = some (.int .i64 t4.f) := S8.k.cell p7
    have y8 : w8.cell? ⟨b, o + 14, none⟩ = some (.int .i64 t4.t) := S8.k.cell p8
    have HTX : Hid (∀ w', Kept w1 w' → Calls Try.prog 35 #[.slice A n c, .agg #[.int .i64 t4.k, .int .i64 t4.f, .int .i64 t4.t]] w' fun e w'' => e = .returned (.string (txN l t4)) ∧ Kept w' w'') := by
      intro w' kk
      obtain ⟨h1, h2, h3, _⟩ := HOK.out _ (nth_mem (P := P) (k := 4) (by have := HM.out; omega))
      rw [ht4] at h1 h2 h3
      obtain ⟨tk, tf, tt⟩ := t4
      dsimp only at h1 h2 h3 ⊢
      obtain ⟨F, rfl⟩ := Int.eq_ofNat_of_zero_le h1
      obtain ⟨T, rfl⟩ := Int.eq_ofNat_of_zero_le (show 0 ≤ tt by omega)
      exact rtext_any A n c l tk F T w' (HL.out.kept kk) (by omega) (by omega) (by omega)
    have HT4 := Lib.hid ht4
    clear ht4 p6 p7 p8
    go_wp2_with fail
    refine (HTX.out w8 S8.k).mono ?_
    rintro e w9 ⟨rfl, kk⟩
    have S9 := S8.kept kk
    clear kk HTX y6 y7 y8 S8
    obtain ⟨X, hX⟩ : ∃ X, txN l t4 = X := ⟨_, rfl⟩
    rw [hX]
    have HX : Hid (txN l (nthP P 4) = X) := by unfold Hid; rw [HT4.out, hX]
    clear hX HT4
    go_upto_region 9 with fail
    obtain ⟨T, hT⟩ : ∃ T, decide (¬ (kindN P 5 = 3 ∧ kindN P 6 = 4 ∧ (X = bSYS ∨ X = bPUB))) = T := ⟨_, rfl⟩
    have HT := Lib.hid hT
    clear hT
    go_cut [62] (fun s wx => s = .bool T ∧ Sx w1 wx g6 g8 (hdA nm Prt.none_ Prt.none_ Prt.none_ false))
    case first =>
      by_cases q5 : kindN P 5 = 3
      rotate_left
      · have Q5 := Lib.hid q5
        obtain ⟨K, hK⟩ : ∃ x, kindN P 5 = x := ⟨_, rfl⟩
        rw [hK] at H5 q5
        have dK : (K == 3) = false := by simpa using q5
        clear hK
        go_wp2_with fail
        refine (H5.out w9 S9.k).mono ?_
        rintro e w10 ⟨rfl, kk⟩
        have S10 := S9.kept kk
        clear kk
        have hTT : T = true := by rw [← HT.out]; exact decide_eq_true (fun e => Q5.out e.1)
        go_wp2_with fail
        go_meet
        rw [hTT]
        exact ⟨by first | rfl | (simp [bne, dK]; done), S10⟩
      rw [q5] at H5
      have Q5 := Lib.hid q5
      clear q5
      by_cases q6 : kindN P 6 = 4
      rotate_left
      · have Q6 := Lib.hid q6
        obtain ⟨K, hK⟩ : ∃ x, kindN P 6 = x := ⟨_, rfl⟩
        rw [hK] at H6 q6
        have dK : (K == 4) = false := by simpa using q6
        clear hK
        go_wp2_with fail
        refine (H5.out w9 S9.k).mono ?_
        rintro e w10 ⟨rfl, kk⟩
        have S10 := S9.kept kk
        clear kk
        go_wp2_with fail
        refine (H6.out w10 S10.k).mono ?_
        rintro e w11 ⟨rfl, kk⟩
        have S11 := S10.kept kk
        clear kk
        have hTT : T = true := by rw [← HT.out]; exact decide_eq_true (fun e => Q6.out e.2.1)
        go_wp2_with fail
        go_meet
        rw [hTT]
        exact ⟨by first | rfl | (simp [bne, dK]; done), S11⟩
      rw [q6] at H6
      have Q6 := Lib.hid q6
      clear q6
      by_cases qP : X.toList = [80, 85, 66, 76, 73, 67]
      rotate_left
      · have QP := Lib.hid qP
        have bP : (X.toList == [80, 85, 66, 76, 73, 67]) = false := by simpa using qP
        by_cases qS : X.toList = [83, 89, 83, 84, 69, 77]
        rotate_left
        · have QS := Lib.hid qS
          have bS : (X.toList == [83, 89, 83, 84, 69, 77]) = false := by simpa using qS
          go_wp2_with fail
          refine (H5.out w9 S9.k).mono ?_
          rintro e w10 ⟨rfl, kk⟩
          have S10 := S9.kept kk
          clear kk
          go_wp2_with fail
          refine (H6.out w10 S10.k).mono ?_
          rintro e w11 ⟨rfl, kk⟩
          have S11 := S10.kept kk
          clear kk
          have hTT : T = true := by rw [← HT.out]; exact decide_eq_true (fun e => e.2.2.elim (fun e => QS.out (by rw [e]; decide +kernel)) (fun e => QP.out (by rw [e]; decide +kernel)))
          go_wp2_with fail
          go_meet
          rw [hTT]
          exact ⟨by first | rfl | (simp [bne, dK]; done), S11⟩
        have QS := Lib.hid qS
        have bS : (X.toList == [83, 89, 83, 84, 69, 77]) = true := by simpa using qS
        go_wp2_with fail
        refine (H5.out w9 S9.k).mono ?_
        rintro e w10 ⟨rfl, kk⟩
        have S10 := S9.kept kk
        clear kk
        go_wp2_with fail
        refine (H6.out w10 S10.k).mono ?_
        rintro e w11 ⟨rfl, kk⟩
        have S11 := S10.kept kk
        clear kk
        have hTT : T = false := by rw [← HT.out]; exact decide_eq_false (fun e => e ⟨Q5.out, Q6.out, .inl (eqSYS QS.out)⟩)
        go_wp2_with fail
        go_meet
        rw [hTT]
        exact ⟨by first | rfl | (simp [bne, dK]; done), S11⟩
      have QP := Lib.hid qP
      have bP : (X.toList == [80, 85, 66, 76, 73, 67]) = true := by simpa using qP
      have bS : (X.toList == [83, 89, 83, 84, 69, 77]) = false := by rw [qP]; decide
      have dS : ¬ X.toList = [83, 89, 83, 84, 69, 77] := by rw [qP]; decide
      go_wp2_with fail
      refine (H5.out w9 S9.k).mono ?_
      rintro e w10 ⟨rfl, kk⟩
      have S10 := S9.kept kk
      clear kk
      go_wp2_with fail
      refine (H6.out w10 S10.k).mono ?_
      rintro e w11 ⟨rfl, kk⟩
      have S11 := S10.kept kk
      clear kk
      have hTT : T = false := by rw [← HT.out]; exact decide_eq_false (fun e => e ⟨Q5.out, Q6.out, .inr (eqPUB QP.out)⟩)
      go_wp2_with fail
      go_meet
      rw [hTT]
      exact ⟨by first | rfl | (simp [bne, dK]; done), S11⟩
    case rest =>
    obtain ⟨rfl, S11⟩ := hcut
    obtain ⟨w11, hww⟩ : ∃ z, z = wc := ⟨_, rfl⟩
    subst hww
    clear H5 H6 S9
    cases T
    rotate_left
    · have h1 := of_decide_eq_true HT.out
      have HVV := Lib.hid (show V = Hd.none_ by rw [← HV2.out, show R = ⟨false, 0, Prt.none_, Prt.none_⟩ by rw [← HR.out]; unfold docOut; rw [if_pos ⟨Q3.out, Q4.out⟩, HX.out]; rw [if_neg h1]]; rfl)
      go_upto_region 10 with fail
      go_cut [] (fun wx => Blk wx g6 #[.int .i64 0, .int .i64 0, .int .i64 0, .int .i64 0, .int .i64 0, .int .i64 0, .int .i64 0, .int .i64 0, .int .i64 0, .int .i64 0, .int .i64 0, .int .i64 0, .bool false] 38 ∧ Kept w wx)
      case first =>
        have bcz := S11.z.cell
        have z0 : w11.cell? ⟨g6, 0, none⟩ = some (.int .i64 0) := bcz 0
        have z1 : w11.cell? ⟨g6, 1, none⟩ = some (.int .i64 0) := bcz 1
        have z2 : w11.cell? ⟨g6, 2, none⟩ = some (.int .i64 0) := bcz 2
        have z3 : w11.cell? ⟨g6, 3, none⟩ = some (.int .i64 0) := bcz 3
        have z4 : w11.cell? ⟨g6, 4, none⟩ = some (.int .i64 0) := bcz 4
        have z5 : w11.cell? ⟨g6, 5, none⟩ = some (.int .i64 0) := bcz 5
        have z6 : w11.cell? ⟨g6, 6, none⟩ = some (.int .i64 0) := bcz 6
        have z7 : w11.cell? ⟨g6, 7, none⟩ = some (.int .i64 0) := bcz 7
        have z8 : w11.cell? ⟨g6, 8, none⟩ = some (.int .i64 0) := bcz 8
        have z9 : w11.cell? ⟨g6, 9, none⟩ = some (.int .i64 0) := bcz 9
        have z10 : w11.cell? ⟨g6, 10, none⟩ = some (.int .i64 0) := bcz 10
        have z11 : w11.cell? ⟨g6, 11, none⟩ = some (.int .i64 0) := bcz 11
        have z12 : w11.cell? ⟨g6, 12, none⟩ = some (.bool false) := bcz 12
        clear bcz
        have zf := S11.z.frozen
        have zl := S11.z.lt
        go_wp2_with fail
        go_meet
        exact ⟨blk_setH S11.z (.int .i64 0) (.int .i64 0) (.int .i64 0) (.int .i64 0) (.int .i64 0) (.int .i64 0) (.int .i64 0) (.int .i64 0) (.int .i64 0) (.int .i64 0) (.int .i64 0) (.int .i64 0) (.bool false), kept_setH (HKW.out.trans S11.k) HG.out (.int .i64 0) (.int .i64 0) (.int .i64 0) (.int .i64 0) (.int .i64 0) (.int .i64 0) (.int .i64 0) (.int .i64 0) (.int .i64 0) (.int .i64 0) (.int .i64 0) (.int .i64 0) (.bool false)⟩
      case rest =>
        obtain ⟨bN, kN⟩ := hcut
        have cN := bN.cell
        have d0 := cN 0
        have d1 := cN 1
        have d2 := cN 2
        have d3 := cN 3
        have d4 := cN 4
        have d5 := cN 5
        have d6 := cN 6
        have d7 := cN 7
        have d8 := cN 8
        have d9 := cN 9
        have d10 := cN 10
        have d11 := cN 11
        have d12 := cN 12
        clear cN
        go_wp2_with fail
        refine HQ0.out _ _ _ ?_
        exact bodyPost_ret (v := .agg #[.int .i64 0, .int .i64 0, .int .i64 0, .int .i64 0, .int .i64 0, .int .i64 0, .int .i64 0, .int .i64 0, .int .i64 0, .int .i64 0, .int .i64 0, .int .i64 0, .bool false]) (by simp [results, Try.results17, go_sem, d0, d1, d2, d3, d4, d5, d6, d7, d8, d9, d10, d11, d12]) rfl ⟨by rw [HVV.out]; rfl, kN⟩
    have h56 := Decidable.not_not.1 (of_decide_eq_false HT.out)
    have Q6 := Lib.hid h56.2.1
    have Q56 := Lib.hid h56
    clear h56 HT
    have hm6 : 6 < m := by
      have h1 := kindN_lt (P := P) (k := 6) (by have := Q6.out; omega)
      have h2 := HM.out
      omega
    obtain ⟨sy, hsy⟩ : ∃ sy, nthP P 6 = sy := ⟨_, rfl⟩
    have HSY := Lib.hid hsy
    have hc6 := HPC.out 6 hm6
    rw [hsy] at hc6
    clear hsy
    go_upto_region 11 with fail
    have y0 : w11.cell? ⟨b, o + 18, none⟩ = some (.int .i64 sy.k) := S11.k.cell hc6.1
    have y1 : w11.cell? ⟨b, o + 19, none⟩ = some (.int .i64 sy.f) := S11.k.cell hc6.2.1
    have y2 : w11.cell? ⟨b, o + 20, none⟩ = some (.int .i64 sy.t) := S11.k.cell hc6.2.2
    have hcx := S11.b.cell
    have z0 : w11.cell? ⟨g8, 6, none⟩ = some (.int .i64 Prt.none_.k) := hcx 6
    have z1 : w11.cell? ⟨g8, 7, none⟩ = some (.int .i64 Prt.none_.f) := hcx 7
    have z2 : w11.cell? ⟨g8, 8, none⟩ = some (.int .i64 Prt.none_.t) := hcx 8
    have zf := S11.b.frozen
    have zl := S11.b.lt
    clear hcx
    go_upto_region 12 with fail
    refine wp_named ?_
    intro w12 hwn
    have S12 : Sx w1 w12 g6 g8 (hdA nm Prt.none_ sy Prt.none_ false) := by
      rw [hwn]
      have RR := ((S11.set 6 (.int .i64 sy.k)).set 7 (.int .i64 sy.f)).set 8 (.int .i64 sy.t)
      exact RR
    clear hwn y0 y1 y2 z0 z1 z2 zf zl S11
    by_cases qP : X.toList = [80, 85, 66, 76, 73, 67]
    rotate_left
    · have QP := Lib.hid qP
      have bP : (X.toList == [80, 85, 66, 76, 73, 67]) = false := by simpa using qP
      have hRR : R = ⟨true, 7, Prt.none_, sy⟩ := by rw [← HR.out]; unfold docOut; rw [if_pos ⟨Q3.out, Q4.out⟩, HX.out, if_pos Q56.out, if_neg (fun e => QP.out (by rw [e]; decide +kernel)), HSY.out]
      go_wp2_with fail
      go_meet
      rw [hRR]
      exact ⟨rfl, by dsimp only; omega, rfl, S12⟩
    have hXP := Lib.hid (eqPUB qP)
    have bP : (X.toList == [80, 85, 66, 76, 73, 67]) = true := by simpa using qP
    go_upto_region 14 with fail
    have HPD : Hid (∀ w', Kept w1 w' → Calls Try.prog 36 #[.slice A n c, .agg #[.int .i64 sy.k, .int .i64 sy.f, .int .i64 sy.t]] w' fun e w'' => e = .returned (.bool (pubOK l sy)) ∧ Kept w' w'') := by
      intro w' kk
      obtain ⟨h1, h2, h3, _⟩ := HOK.out _ (nth_mem (P := P) (k := 6) (by have := HM.out; omega))
      rw [HSY.out] at h1 h2 h3
      obtain ⟨tk, tf, tt⟩ := sy
      dsimp only at h1 h2 h3 ⊢
      obtain ⟨F, rfl⟩ := Int.eq_ofNat_of_zero_le h1
      obtain ⟨T, rfl⟩ := Int.eq_ofNat_of_zero_le (show 0 ≤ tt by omega)
      exact rpids_any A n c l tk F T w' (HL.out.kept kk) (by omega) (by omega) (by omega)
    obtain ⟨pq, hpq⟩ : ∃ pq, pubOK l sy = pq := ⟨_, rfl⟩
    rw [hpq] at HPD
    have HPQ : Hid (pubOK l (nthP P 6) = pq) := by unfold Hid; rw [HSY.out, hpq]
    clear hpq
    obtain ⟨T, hT⟩ : ∃ T, decide (¬ (kindN P 7 = 3 ∧ kindN P 8 = 4 ∧ pq = true)) = T := ⟨_, rfl⟩
    have HT := Lib.hid hT
    clear hT
    go_cut [85] (fun s wx => s = .bool T ∧ Sx w1 wx g6 g8 (hdA nm Prt.none_ sy Prt.none_ false))
    case first =>
      by_cases q7 : kindN P 7 = 3
      rotate_left
      · have Q7 := Lib.hid q7
        obtain ⟨K, hK⟩ : ∃ x, kindN P 7 = x := ⟨_, rfl⟩
        rw [hK] at H7 q7
        have dK : (K == 3) = false := by simpa using q7
        clear hK
        go_wp2_with fail
        refine (H7.out w12 S12.k).mono ?_
        rintro e w13 ⟨rfl, kk⟩
        have S13 := S12.kept kk
        clear kk
        have hTT : T = true := by rw [← HT.out]; exact decide_eq_true (fun e => Q7.out e.1)
        go_wp2_with fail
        go_meet
        rw [hTT]
        exact ⟨by first | rfl | (simp [bne, dK]; done), S13⟩
      rw [q7] at H7
      have Q7 := Lib.hid q7
      clear q7
      by_cases q8 : kindN P 8 = 4
      rotate_left
      · have Q8 := Lib.hid q8
        obtain ⟨K, hK⟩ : ∃ x, kindN P 8 = x := ⟨_, rfl⟩
        rw [hK] at H8 q8
        have dK : (K == 4) = false := by simpa using q8
        clear hK
        go_wp2_with fail
        refine (H7.out w12 S12.k).mono ?_
        rintro e w13 ⟨rfl, kk⟩
        have S13 := S12.kept kk
        clear kk
        go_wp2_with fail
        refine (H8.out w13 S13.k).mono ?_
        rintro e w14 ⟨rfl, kk⟩
        have S14 := S13.kept kk
        clear kk
        have hTT : T = true := by rw [← HT.out]; exact decide_eq_true (fun e => Q8.out e.2.1)
        go_wp2_with fail
        go_meet
        rw [hTT]
        exact ⟨by first | rfl | (simp [bne, dK]; done), S14⟩
      rw [q8] at H8
      have Q8 := Lib.hid q8
      clear q8
      go_wp2_with fail
      refine (H7.out w12 S12.k).mono ?_
      rintro e w13 ⟨rfl, kk⟩
      have S13 := S12.kept kk
      clear kk
      go_wp2_with fail
      refine (H8.out w13 S13.k).mono ?_
      rintro e w14 ⟨rfl, kk⟩
      have S14 := S13.kept kk
      clear kk
      have y0 : w14.cell? ⟨b, o + 18, none⟩ = some (.int .i64 sy.k) := S14.k.cell hc6.1
      have y1 : w14.cell? ⟨b, o + 19, none⟩ = some (.int .i64 sy.f) := S14.k.cell hc6.2.1
      have y2 : w14.cell? ⟨b, o + 20, none⟩ = some (.int .i64 sy.t) := S14.k.cell hc6.2.2
      go_wp2_with fail
      refine (HPD.out w14 S14.k).mono ?_
      rintro e w15 ⟨rfl, kk⟩
      have S15 := S14.kept kk
      clear kk y0 y1 y2
      have hTT : T = !pq := by rw [← HT.out]; cases pq <;> simp [Q7.out, Q8.out]
      go_wp2_with fail
      go_meet
      rw [hTT]
      exact ⟨rfl, S15⟩
    case rest =>
    obtain ⟨rfl, S15⟩ := hcut
    obtain ⟨w15, hww⟩ : ∃ z, z = wc := ⟨_, rfl⟩
    subst hww
    clear H7 H8 S12 HPD
    cases T
    rotate_left
    · have h1 := of_decide_eq_true HT.out
      have HVV := Lib.hid (show V = Hd.none_ by rw [← HV2.out, show R = ⟨false, 0, Prt.none_, Prt.none_⟩ by rw [← HR.out]; unfold docOut; rw [if_pos (show _ ∧ _ from ⟨Q3.out, Q4.out⟩), HX.out, if_pos Q56.out, if_pos hXP.out]; rw [HPQ.out, if_neg h1]]; rfl)
      go_upto_region 15 with fail
      go_cut [] (fun wx => Blk wx g6 #[.int .i64 0, .int .i64 0, .int .i64 0, .int .i64 0, .int .i64 0, .int .i64 0, .int .i64 0, .int .i64 0, .int .i64 0, .int .i64 0, .int .i64 0, .int .i64 0, .bool false] 38 ∧ Kept w wx)
      case first =>
        have bcz := S15.z.cell
        have z0 : w15.cell? ⟨g6, 0, none⟩ = some (.int .i64 0) := bcz 0
        have z1 : w15.cell? ⟨g6, 1, none⟩ = some (.int .i64 0) := bcz 1
        have z2 : w15.cell? ⟨g6, 2, none⟩ = some (.int .i64 0) := bcz 2
        have z3 : w15.cell? ⟨g6, 3, none⟩ = some (.int .i64 0) := bcz 3
        have z4 : w15.cell? ⟨g6, 4, none⟩ = some (.int .i64 0) := bcz 4
        have z5 : w15.cell? ⟨g6, 5, none⟩ = some (.int .i64 0) := bcz 5
        have z6 : w15.cell? ⟨g6, 6, none⟩ = some (.int .i64 0) := bcz 6
        have z7 : w15.cell? ⟨g6, 7, none⟩ = some (.int .i64 0) := bcz 7
        have z8 : w15.cell? ⟨g6, 8, none⟩ = some (.int .i64 0) := bcz 8
        have z9 : w15.cell? ⟨g6, 9, none⟩ = some (.int .i64 0) := bcz 9
        have z10 : w15.cell? ⟨g6, 10, none⟩ = some (.int .i64 0) := bcz 10
        have z11 : w15.cell? ⟨g6, 11, none⟩ = some (.int .i64 0) := bcz 11
        have z12 : w15.cell? ⟨g6, 12, none⟩ = some (.bool false) := bcz 12
        clear bcz
        have zf := S15.z.frozen
        have zl := S15.z.lt
        go_wp2_with fail
        go_meet
        exact ⟨blk_setH S15.z (.int .i64 0) (.int .i64 0) (.int .i64 0) (.int .i64 0) (.int .i64 0) (.int .i64 0) (.int .i64 0) (.int .i64 0) (.int .i64 0) (.int .i64 0) (.int .i64 0) (.int .i64 0) (.bool false), kept_setH (HKW.out.trans S15.k) HG.out (.int .i64 0) (.int .i64 0) (.int .i64 0) (.int .i64 0) (.int .i64 0) (.int .i64 0) (.int .i64 0) (.int .i64 0) (.int .i64 0) (.int .i64 0) (.int .i64 0) (.int .i64 0) (.bool false)⟩
      case rest =>
        obtain ⟨bN, kN⟩ := hcut
        have cN := bN.cell
        have d0 := cN 0
        have d1 := cN 1
        have d2 := cN 2
        have d3 := cN 3
        have d4 := cN 4
        have d5 := cN 5
        have d6 := cN 6
        have d7 := cN 7
        have d8 := cN 8
        have d9 := cN 9
        have d10 := cN 10
        have d11 := cN 11
        have d12 := cN 12
        clear cN
        go_wp2_with fail
        refine HQ0.out _ _ _ ?_
        exact bodyPost_ret (v := .agg #[.int .i64 0, .int .i64 0, .int .i64 0, .int .i64 0, .int .i64 0, .int .i64 0, .int .i64 0, .int .i64 0, .int .i64 0, .int .i64 0, .int .i64 0, .int .i64 0, .bool false]) (by simp [results, Try.results17, go_sem, d0, d1, d2, d3, d4, d5, d6, d7, d8, d9, d10, d11, d12]) rfl ⟨by rw [HVV.out]; rfl, kN⟩
    have h78 := Decidable.not_not.1 (of_decide_eq_false HT.out)
    have hm8 : 8 < m := by
      have h1 := kindN_lt (P := P) (k := 8) (by have := h78.2.1; omega)
      have h2 := HM.out
      omega
    have Q78 := Lib.hid h78
    clear h78 HT
    obtain ⟨s8, hs8⟩ : ∃ s8, nthP P 8 = s8 := ⟨_, rfl⟩
    have HS8 := Lib.hid hs8
    have hc8 := HPC.out 8 hm8
    rw [hs8] at hc8
    clear hs8
    go_upto_region 16 with fail
    have y0 : w15.cell? ⟨b, o + 18, none⟩ = some (.int .i64 sy.k) := S15.k.cell hc6.1
    have y1 : w15.cell? ⟨b, o + 19, none⟩ = some (.int .i64 sy.f) := S15.k.cell hc6.2.1
    have y2 : w15.cell? ⟨b, o + 20, none⟩ = some (.int .i64 sy.t) := S15.k.cell hc6.2.2
    have hcx := S15.b.cell
    have z0 : w15.cell? ⟨g8, 3, none⟩ = some (.int .i64 Prt.none_.k) := hcx 3
    have z1 : w15.cell? ⟨g8, 4, none⟩ = some (.int .i64 Prt.none_.f) := hcx 4
    have z2 : w15.cell? ⟨g8, 5, none⟩ = some (.int .i64 Prt.none_.t) := hcx 5
    have zf := S15.b.frozen
    have zl := S15.b.lt
    clear hcx
    go_upto_region 17 with fail
    refine wp_named ?_
    intro w16 hwn
    have S16 : Sx w1 w16 g6 g8 (hdA nm sy sy Prt.none_ false) := by
      rw [hwn]
      have RR := ((S15.set 3 (.int .i64 sy.k)).set 4 (.int .i64 sy.f)).set 5 (.int .i64 sy.t)
      exact RR
    clear hwn y0 y1 y2 z0 z1 z2 zf zl S15
    have y0 : w16.cell? ⟨b, o + 24, none⟩ = some (.int .i64 s8.k) := S16.k.cell hc8.1
    have y1 : w16.cell? ⟨b, o + 25, none⟩ = some (.int .i64 s8.f) := S16.k.cell hc8.2.1
    have y2 : w16.cell? ⟨b, o + 26, none⟩ = some (.int .i64 s8.t) := S16.k.cell hc8.2.2
    have hcx := S16.b.cell
    have z0 : w16.cell? ⟨g8, 6, none⟩ = some (.int .i64 sy.k) := hcx 6
    have z1 : w16.cell? ⟨g8, 7, none⟩ = some (.int .i64 sy.f) := hcx 7
    have z2 : w16.cell? ⟨g8, 8, none⟩ = some (.int .i64 sy.t) := hcx 8
    have zf := S16.b.frozen
    have zl := S16.b.lt
    clear hcx
    go_upto_region 18 with fail
    refine wp_named ?_
    intro w17 hwn
    have S17 : Sx w1 w17 g6 g8 (hdA nm sy s8 Prt.none_ false) := by
      rw [hwn]
      have RR := ((S16.set 6 (.int .i64 s8.k)).set 7 (.int .i64 s8.f)).set 8 (.int .i64 s8.t)
      exact RR
    clear hwn y0 y1 y2 z0 z1 z2 zf zl S16
    have hRR : R = ⟨true, 9, sy, s8⟩ := by rw [← HR.out]; unfold docOut; rw [if_pos (show _ ∧ _ from ⟨Q3.out, Q4.out⟩), HX.out, if_pos Q56.out, if_pos hXP.out]; rw [HPQ.out, if_pos Q78.out, HSY.out, HS8.out]
    go_wp2_with fail
    go_meet
    rw [hRR]
    exact ⟨rfl, by dsimp only; omega, rfl, S17⟩
  case rest =>
  obtain ⟨rfl, hra, hRok, S9⟩ := hcut
  obtain ⟨rok, ra, pb, sy⟩ := R
  dsimp only at hra hRok S9
  have HV3 : Hid (docIn P nm pb sy (blankN P ra) = V) := by
    unfold Hid
    rw [← HV2.out]
    dsimp only
    rw [if_pos hRok.out]
  have hKK := ‹∀ (a : Act) (w : World), Code.wp Try.prog _ QE a w → _›
  refine hKK _ _ ?_
  exact rread_tail A n c f t w w1 wc P V nm pb sy ra b o m c1 g6 g8 _ HQ0 HG HKW HM hm1 HB HK HPC hra HV3 S9 _ _ _ _ _ _ _ _ _ _ _ _ _ _ _ _ _ _ _ _ _ _ _ _ _ _ _ _ _ _ _ _ _ _ _ _ _ _ _ _ _ _ _ _ _ _ _ _ _ _ _ _ _ _ _ _ _ _ _ _ _ _ _ _ _ _ _ _ _ _ _ _ _ _ _ _ _ _ _ _ _ _ _ _ _ _ _ _ _ _ _ _ _ _ _ _ _ _ _ _ _ _ _ _ _ _ _ _ _ _ _ _ _ _ _ _ _ _ _ _ _ _ _ _ _ _ _ _
end Go.Proofs.Ytnfcfpcpfnhcnaa
