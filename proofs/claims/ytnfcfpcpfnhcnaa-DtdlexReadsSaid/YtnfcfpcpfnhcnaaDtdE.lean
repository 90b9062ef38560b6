/- Layer 9: the reader's takes: walked. -/
import Derived.Test.YtnfcfpcpfnhcnaaDtdC
import Derived.Test.YtnfcfpcpfnhcnaaQuiet
namespace Go.Proofs.Ytnfcfpcpfnhcnaa
open Go.RowKit
attribute [local go_sem ↓] Go.wp_at_zero Go.wp_at_succ

/-- Are the next parts of these kinds? -/
def tk (P : List Prt) (a : Nat) (ks : List Int) : Bool := decide (((P.drop a).take ks.length).map Prt.k = ks)
theorem tk_len {P : List Prt} {a : Nat} {ks : List Int} (h : tk P a ks = true) : a + ks.length ≤ P.length ∨ ks = [] := by
  unfold tk at h
  have h1 := congrArg List.length (of_decide_eq_true h)
  simp at h1
  rcases Nat.eq_zero_or_pos ks.length with h0 | h0
  · exact .inr (List.eq_nil_of_length_eq_zero h0)
  · exact .inl (by omega)
@[reducible] def rdr (A : Option Addr) (n c : Nat) (PA : Option Addr) (pn pc a : Nat) : Array Value := #[.slice A n c, .slice PA pn pc, .int .i64 a]
def TakesOf (b : Bool) (A : Option Addr) (n c : Nat) (PA : Option Addr) (pn pc a kn g : Nat) (w : World) (e : Ending) (w' : World) : Prop :=
  (match b with
  | true => e = .returned (.slice (cutA PA pc a 3) kn (pc - a)) ∧ Blk w' g (rdr A n c PA pn pc (a + kn)) 52
  | false => e = .returned (.slice none 0 0) ∧ Blk w' g (rdr A n c PA pn pc a) 52) ∧ w.grownBy w' (some g)
theorem grown_dn (w : World) (n : Nat) (row : Option Nat) : w.grownBy (w.drewN n) row := ⟨rfl, rfl, rfl, Nat.le_refl _, fun _ _ _ => rfl⟩
theorem grown_st (w : World) (g j : Nat) (u : Value) : w.grownBy (w.setCell ⟨g, j, none⟩ u) (some g) :=
  ⟨rfl, rfl, rfl, by simp, fun k _ hk => heap_setCell_other w ⟨g, j, none⟩ k u (fun e => hk (by simp [e]))⟩
set_option maxHeartbeats 4000000 in
theorem takes_any (A : Option Addr) (n c : Nat) (PA : Option Addr) (pn pc : Nat) (P : List Prt) (a g : Nat) (KA : Option Addr) (kn kc : Nat) (ks : List Int) (w : World)
    (hB : Blk w g (rdr A n c PA pn pc a) 52) (hP : Sl w 3 PA pn pc (P.flatMap prtC)) (ha : a ≤ pn) (hpn : pn ≤ 1000000) (hK : Sl w 1 KA kn kc (ks.map (Value.int .i64))) (hkn : kn ≤ 100) (hk0 : 0 < kn) :
    Calls Try.prog 31 #[.pointer (some ⟨g, 0, none⟩), .slice KA kn kc] w fun e w' => TakesOf (tk P a ks) A n c PA pn pc a kn g w e w' := by
  have hPl := hP.llen prtC_len (by omega)
  have hKl := hK.llen1
  have hcap := hP.cap
  have hmax := hP.max
  have hkc := hK.cap
  have hkm := hK.max
  have bc := hB.cell
  have c0 : w.cell? ⟨g, 0, none⟩ = some (.slice A n c) := bc 0
  have c1 : w.cell? ⟨g, 1, none⟩ = some (.slice PA pn pc) := bc 1
  have c2 : w.cell? ⟨g, 2, none⟩ = some (.int .i64 a) := bc 2
  have cf := hB.frozen
  have gl := hB.lt
  clear bc
  obtain ⟨b, hb⟩ : ∃ b, tk P a ks = b := ⟨_, rfl⟩
  rw [hb]
  have HTK := Lib.hid hb
  have HPL := Lib.hid hPl
  have HKL := Lib.hid hKl
  have ws : IntKind.i64.wrap ((pn : Int) - a) = (pn : Int) - a := IntWalk.i64_in _ (by omega)
  have wa : ∀ j : Nat, j ≤ 200 → IntKind.i64.wrap ((a : Int) + j) = (a : Int) + j := fun j hj => IntWalk.i64_in _ (by omega)
  clear hb hPl hKl
  by_cases hshort : pn - a < kn
  · have hbf : b = false := by
      rw [← HTK.out]
      unfold tk
      rw [decide_eq_false_iff_not]
      intro e
      have h1 := congrArg List.length e
      have := HPL.out
      have := HKL.out
      simp at h1
      omega
    subst hbf
    have l1 : (pn : Int) - a < kn := by omega
    go_enter Try.func31, Try.ntmps31
    go_wp2_with fail
    go_quiet (fail)
    go_wp2_with fail
    go_ret
    exact ⟨⟨rfl, hB⟩, grown_dn _ _ _⟩
  · have l1 : ¬ (pn : Int) - a < kn := by omega
    go_enter Try.func31, Try.ntmps31
    go_wp2_with fail
    go_quiet (fail)
    go_wp2_with fail
    go_loopw [23] (fun i wr => ∃ j : Nat, j ≤ kn ∧ i = .int .i64 j ∧ (∃ q, wr = w.drewN q) ∧ Hid (((P.drop a).take j).map Prt.k = ks.take j)) (fun i _ => kn - (intOf i).toNat)
    case atStart => exact ⟨0, Nat.zero_le _, rfl, ⟨_, rfl⟩, by simp [Hid]⟩
    case round =>
      obtain ⟨j, hj, rfl, ⟨q, rfl⟩, hinv⟩ := hrel
      by_cases hlt : j < kn
      · obtain ⟨kb, ko, kk, rfl, hkk, hkcell, hkb⟩ := hK.oneb hlt
        obtain ⟨pb, po, p, rfl, hp, hpc, hpb⟩ := hP.elemb prtC_len (by omega) (k := a + j) (by omega)
        have p0 : w.cell? ⟨pb, po + (a + j) * 3, none⟩ = some (.int .i64 p.k) := hpc 0 _ rfl
        have HPP := Lib.hid hp
        have HKK := Lib.hid hkk
        have wj := wa j (by omega)
        have l2 : (a : Int) + j < pn := by omega
        have l3 : (0 : Int) ≤ (a : Int) + j := by omega
        have e1 : ((a : Int) + j).toNat = a + j := by omega
        clear hp hkk hpc
        by_cases heq : p.k = kk
        · have HEQ := Lib.hid heq
          have d1 : (p.k == kk) = true := by simpa using heq
          go_wp2_with fail
          go_quiet (fail)
          go_wp2_with fail
          go_roundw
          case rel =>
            refine ⟨j + 1, hlt, by go_num, ⟨_, rfl⟩, ?_⟩
            unfold Hid
            have hp' : (P.drop a)[j]? = some p := by rw [List.getElem?_drop]; exact HPP.out
            rw [List.take_add_one, List.take_add_one, hp', HKK.out, List.map_append, hinv.out]
            simp [HEQ.out]
          case measure => simp [intOf]; omega
        · have hbf : b = false := by
            rw [← HTK.out]
            unfold tk
            rw [decide_eq_false_iff_not]
            intro e
            have h1 := congrArg (fun l => l[j]?) e
            have hp' : (P.drop a)[j]? = some p := by rw [List.getElem?_drop]; exact HPP.out
            simp only [List.getElem?_map, List.getElem?_take, HKL.out, if_pos hlt, hp', HKK.out, Option.map_some, Option.some.injEq] at h1
            exact heq h1
          subst hbf
          have d1 : (p.k == kk) = false := by simpa using heq
          clear heq
          go_wp2_with fail
          go_quiet (fail)
          go_wp2_with fail
          go_ret
          exact ⟨⟨rfl, hB⟩, (grown_dn _ _ _).trans (grown_dn _ _ _)⟩
      · obtain rfl : j = kn := by omega
        have hbt : b = true := by
          rw [← HTK.out]
          unfold tk
          rw [decide_eq_true_eq, HKL.out, hinv.out, List.take_of_length_le (by rw [HKL.out]; exact Nat.le_refl _)]
        subst hbt
        have hcut := run_cut_lh appT_dprt PA pn pc a (a + j) (by omega) (by omega)
        rw [show ((a + j : Nat) : Int) = (a : Int) + j by omega, show a + j - a = j by omega] at hcut
        obtain ⟨CA, hCA⟩ : ∃ CA, cutA PA pc a 3 = CA := ⟨_, rfl⟩
        rw [hCA] at hcut
        have HCA := Lib.hid hCA
        have wj := wa j (by omega)
        clear hCA
        go_wp2_with fail
        go_quiet (fail)
        go_wp2_with fail
        go_ret
        have hgr := (grown_dn w (q + nq) (some g)).trans (grown_st (w.drewN (q + nq)) g 2 (.int .i64 ((a : Int) + j)))
        refine ⟨⟨by rw [HCA.out]; rfl, ?_⟩, hgr⟩
        have hBq : Blk (w.drewN (q + nq)) g (rdr A n c PA pn pc a) 52 := hB
        have h2 := hBq.set 2 (.int .i64 ((a : Int) + j))
        have e3 : (rdr A n c PA pn pc a).setIfInBounds 2 (.int .i64 ((a : Int) + j)) = rdr A n c PA pn pc (a + j) := by
          rw [show (a : Int) + j = ((a + j : Nat) : Int) by omega]
          rfl
        rw [e3] at h2
        exact h2
end Go.Proofs.Ytnfcfpcpfnhcnaa
