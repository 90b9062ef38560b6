/- The reader of parts of layer 8, walked: takes. -/
import Derived.Test.YtbebmmohambngaaTagV
import Derived.IntWalk
namespace Go.Proofs.Ytbebmmohambngaa
open Go.RowKit

theorem appT_ints : AppT Try.prog 65 3 1 := appT_mk (z := .int .i64 0) (bytes := 8) Try.underlying65 (by kernel_rfl) rfl (by omega) (by omega)

/-- Are the next parts of these kinds? -/
def takeF (ks : List Int) (p : List Prt) : Bool := (p.take ks.length).map (·.k) == ks
theorem takeF_short {ks : List Int} {p : List Prt} (h : p.length < ks.length) : takeF ks p = false := by
  unfold takeF
  rw [beq_eq_false_iff_ne]
  intro e
  have := congrArg List.length e
  simp at this
  omega
theorem takeF_nil (p : List Prt) : takeF [] p = true := by simp [takeF]
theorem takeF_step {ks : List Int} {P : List Prt} {i j : Nat} {x : Int} {p : Prt} (hk : ks[i]? = some x) (hp : P[j]? = some p) : takeF (ks.drop i) (P.drop j) = (p.k == x && takeF (ks.drop (i + 1)) (P.drop (j + 1))) := by
  rw [drop_get hk, drop_get hp]
  unfold takeF
  rw [List.length_cons, List.take_succ_cons, List.map_cons]
  rfl

theorem takes_yes (g : Nat) (A : Option Addr) (n c : Nat) (P : List Prt) (j : Nat) (B : Option Addr) (m d : Nat) (ks : List Int) (w : World)
    (h0 : w.cell? ⟨g, 0, none⟩ = some (.slice A n c)) (h1 : w.cell? ⟨g, 1, none⟩ = some (.int .i64 j)) (hf : w.frozen? ⟨g, 1, none⟩ = false)
    (hP : Sl w 3 A n c (P.flatMap prtC)) (hK : Sl w 1 B m d (ks.map (Value.int .i64))) (hm : 0 < m) (hj : j ≤ n) (hn : n ≤ 1000000) (ht : takeF ks (P.drop j) = true) :
    Calls Try.prog 15 #[.pointer (some ⟨g, 0, none⟩), .slice B m d] w fun e w' => ∃ b o q, e = .returned (.slice (some ⟨b, o, none⟩) m (c - j)) ∧ (∃ o', A = some ⟨b, o', none⟩) ∧
      Sl w 3 (some ⟨b, o, none⟩) m (c - j) (((P.drop j).take m).flatMap prtC) ∧ (w.drewN q).setCell ⟨g, 1, none⟩ (.int .i64 (j + m)) = w' := by
  have hcap := hP.cap
  have hmax := hP.max
  have hcap' := hK.cap
  have hmax' := hK.max
  have hlk := hK.llen1
  have hlp := hP.llen (s := 3) (fun _ => rfl) (by omega)
  have hjm : j + m ≤ n := by
    rcases Nat.lt_or_ge n (j + m) with hlt | hge
    · rw [takeF_short (by rw [List.length_drop]; omega)] at ht
      cases ht
    · exact hge
  have hsl := hP.cutf (s := 3) (fun _ => rfl) (i := j) (m := j + m) (by omega) hjm
  rw [show j + m - j = m by omega] at hsl
  obtain ⟨b, o, hA2, _⟩ := hsl.at_ hm
  rw [hA2] at hsl
  obtain ⟨E, hE⟩ : ∃ E, E = j + m := ⟨_, rfl⟩
  have hcut := run_cut_lh appT_prt A n c j E (by omega) (by omega)
  rw [hA2, show E - j = m by omega] at hcut
  have hAb : ∃ o', A = some ⟨b, o', none⟩ := by
    obtain ⟨b1, o1, rfl, _⟩ := hP.at_ (by omega)
    unfold cutA at hA2
    rw [if_neg (by omega)] at hA2
    simp [Addr.add_lit] at hA2
    exact ⟨o1, by rw [hA2.1]⟩
  have HAB := Lib.hid hAb
  clear hAb
  have s1 : IntKind.i64.wrap ((j : Int) + m) = (E : Int) := by rw [hE]; exact IntWalk.i64_in _ (by omega)
  have hjE : j ≤ E := by omega
  have hEn : E ≤ n := by omega
  have HE := Lib.hid hE
  have s2 : IntKind.i64.wrap ((n : Int) - j) = (n : Int) - j := IntWalk.i64_in _ (by omega)
  have d1 : decide ((n : Int) - j < m) = false := by simp; omega
  have HT := Lib.hid ht
  have HLK := Lib.hid hlk
  have HLP := Lib.hid hlp
  clear ht hlk hlp hA2 hE
  go_enter Try.func15, Try.ntmps15
  go_wp2_with fail
  go_quiet (fail)
  go_wp2_with fail
  go_loopw [23] (fun i wr => ∃ k : Nat, k ≤ m ∧ i = .int .i64 k ∧ (∃ q, wr = w.drewN q) ∧ Hid (takeF (ks.drop k) (P.drop (j + k)) = true)) (fun i _ => m - (intOf i).toNat)
  case atStart => exact ⟨0, Nat.zero_le _, rfl, ⟨_, rfl⟩, by simpa [Hid] using HT.out⟩
  case round =>
    obtain ⟨k, hk, rfl, ⟨q, rfl⟩, hinv⟩ := hrel
    by_cases hlt : k < m
    · obtain ⟨b1, o1, x, hB, hx, hcx, hb1⟩ := hK.oneb hlt
      obtain ⟨b2, o2, p, hA, hp, hcp, hb2⟩ := hP.elemb (s := 3) (k := j + k) (fun _ => rfl) (by omega) (by omega)
      subst hB hA
      have p0 : w.cell? ⟨b2, o2 + (j + k) * 3, none⟩ = some (.int .i64 p.k) := hcp 0 _ rfl
      have hst := hinv.out
      rw [takeF_step hx hp] at hst
      obtain ⟨g1, g2⟩ := Bool.and_eq_true_iff.1 hst
      have e1 : (p.k != x) = false := by rw [bne, g1]; rfl
      have HG := Lib.hid g2
      have r1 : IntKind.i64.wrap ((j : Int) + k) = (j : Int) + k := IntWalk.i64_in _ (by omega)
      have r2 : ((j : Int) + k).toNat = j + k := by omega
      have r3 : (0 : Int) ≤ (j : Int) + k := by omega
      have r4 : (j : Int) + k < n := by omega
      clear hx hp hcp hst g1 g2
      go_wp2_with fail
      go_quiet (fail)
      clear r1 r2
      go_wp2
      go_roundw
      case rel => exact ⟨k + 1, by omega, by go_num, ⟨_, rfl⟩, by simpa [Hid, Nat.add_assoc] using HG.out⟩
      case measure => simp [intOf]; omega
    · go_wp2_with fail
      go_quiet (fail)
      go_wp2_with fail
      go_ret
      exact ⟨b, o, _, rfl, HAB.out, hsl, by rw [HE.out]; first | rfl | (push_cast; rfl)⟩

theorem takes_no (g : Nat) (A : Option Addr) (n c : Nat) (P : List Prt) (j : Nat) (B : Option Addr) (m d : Nat) (ks : List Int) (w : World)
    (h0 : w.cell? ⟨g, 0, none⟩ = some (.slice A n c)) (h1 : w.cell? ⟨g, 1, none⟩ = some (.int .i64 j))
    (hP : Sl w 3 A n c (P.flatMap prtC)) (hK : Sl w 1 B m d (ks.map (Value.int .i64))) (hj : j ≤ n) (hn : n ≤ 1000000) (ht : takeF ks (P.drop j) = false) :
    Calls Try.prog 15 #[.pointer (some ⟨g, 0, none⟩), .slice B m d] w fun e w' => e = .returned (.slice none 0 0) ∧ ∃ q, w' = w.drewN q := by
  have hcap := hP.cap
  have hmax := hP.max
  have hcap' := hK.cap
  have hmax' := hK.max
  have hlk := hK.llen1
  have hlp := hP.llen (s := 3) (fun _ => rfl) (by omega)
  have s2 : IntKind.i64.wrap ((n : Int) - j) = (n : Int) - j := IntWalk.i64_in _ (by omega)
  have HT := Lib.hid ht
  have HLK := Lib.hid hlk
  have HLP := Lib.hid hlp
  clear ht hlk hlp
  by_cases hjm : j + m ≤ n
  · have d1 : decide ((n : Int) - j < m) = false := by simp; omega
    go_enter Try.func15, Try.ntmps15
    go_wp2_with fail
    go_quiet (fail)
    go_wp2_with fail
    go_loopw [23] (fun i wr => ∃ k : Nat, k ≤ m ∧ i = .int .i64 k ∧ (∃ q, wr = w.drewN q) ∧ Hid (takeF (ks.drop k) (P.drop (j + k)) = false)) (fun i _ => m - (intOf i).toNat)
    case atStart => exact ⟨0, Nat.zero_le _, rfl, ⟨_, rfl⟩, by simpa [Hid] using HT.out⟩
    case round =>
      obtain ⟨k, hk, rfl, ⟨q, rfl⟩, hinv⟩ := hrel
      by_cases hlt : k < m
      · obtain ⟨b1, o1, x, hB, hx, hcx, hb1⟩ := hK.oneb hlt
        obtain ⟨b2, o2, p, hA, hp, hcp, hb2⟩ := hP.elemb (s := 3) (k := j + k) (fun _ => rfl) (by omega) (by omega)
        subst hB hA
        have p0 : w.cell? ⟨b2, o2 + (j + k) * 3, none⟩ = some (.int .i64 p.k) := hcp 0 _ rfl
        have hst := hinv.out
        rw [takeF_step hx hp] at hst
        have r1 : IntKind.i64.wrap ((j : Int) + k) = (j : Int) + k := IntWalk.i64_in _ (by omega)
        have r2 : ((j : Int) + k).toNat = j + k := by omega
        have r3 : (0 : Int) ≤ (j : Int) + k := by omega
        have r4 : (j : Int) + k < n := by omega
        cases hpx : (p.k == x)
        · have e1 : (p.k != x) = true := by rw [bne, hpx]; rfl
          clear hx hp hcp hst hpx
          go_wp2_with fail
          go_quiet (fail)
          clear r1 r2
          go_wp2
          go_ret
          exact ⟨rfl, q + nq, by simp⟩
        · have e1 : (p.k != x) = false := by rw [bne, hpx]; rfl
          rw [hpx, Bool.true_and] at hst
          have HG := Lib.hid hst
          clear hx hp hcp hst hpx
          go_wp2_with fail
          go_quiet (fail)
          clear r1 r2
          go_wp2
          go_roundw
          case rel => exact ⟨k + 1, by omega, by go_num, ⟨_, rfl⟩, by simpa [Hid, Nat.add_assoc] using HG.out⟩
          case measure => simp [intOf]; omega
      · exfalso
        have h1 := hinv.out
        rw [List.drop_eq_nil_of_le (by have := HLK.out; omega), takeF_nil] at h1
        cases h1
  · have d1 : decide ((n : Int) - j < m) = true := by simp; omega
    go_enter Try.func15, Try.ntmps15
    go_wp2_with fail
    go_quiet (fail)
    go_wp2_with fail
    go_ret
    exact ⟨rfl, _, rfl⟩
end Go.Proofs.Ytbebmmohambngaa
