/- Runs of runes, names' lengths: walked. -/
import Derived.Test.YtmicmmbdkmmnoaaClassW
import Derived.Test.YtmicmmbdkmmnoaaLexP
import Derived.Test.YtmicmmbdkmmnoaaApp
namespace Go.Proofs.Ytmicmmbdkmmnoaa
open Go.RowKit

theorem drop_get {α : Type} {l : List α} {k : Nat} {x : α} (h : l[k]? = some x) : l.drop k = x :: l.drop (k + 1) := by
  obtain ⟨hk, rfl⟩ := List.getElem?_eq_some_iff.1 h
  exact List.drop_eq_getElem_cons hk
theorem runF_yes {p : Int → Bool} {l : List Int} {k : Nat} {x : Int} (h : l[k]? = some x) (hp : p x = true) : runF p (l.drop k) = 1 + runF p (l.drop (k + 1)) := by
  rw [drop_get h, runF, List.takeWhile_cons, if_pos hp, List.length_cons]
  unfold runF
  omega
theorem runF_no {p : Int → Bool} {l : List Int} {k : Nat} {x : Int} (h : l[k]? = some x) (hp : p x = false) : runF p (l.drop k) = 0 := by
  rw [drop_get h, runF, List.takeWhile_cons, if_neg (by simp [hp])]
  rfl
theorem runF_end {p : Int → Bool} {l : List Int} {k : Nat} (h : l.length ≤ k) : runF p (l.drop k) = 0 := by
  rw [List.drop_eq_nil_of_le h]
  rfl
theorem runF_le (p : Int → Bool) (s : List Int) : runF p s ≤ s.length := by
  unfold runF
  induction s with
  | nil => simp
  | cons x s ih =>
    rw [List.takeWhile_cons]
    split <;> simp
    exact ih

theorem appT_runes : AppT Try.prog 36 21 1 := appT_mk (z := .int .i32 0) (bytes := 4) Try.underlying36 (by kernel_rfl) rfl (by omega) (by omega)

theorem eql_nilFunc (F : Nat) (w : World) : (binOp .eql 78 (.func (.func F) #[] #[]) .nilFunc).run Try.prog w = .ok (.bool false) w := by
  have hu : Try.prog.underlying 78 = some (.func #[21] #[4] false) := by kernel_rfl
  have h : ∀ d : Nat, (Op.equalIn (d + 1) 78 (.func (.func F) #[] #[]) .nilFunc).run Try.prog w = .ok false w := fun d => by
    simp [Op.equalIn, run_underlying hu]
  simp only [binOp]
  simp [Op.equal, Op.maxDepth, h 9999]
theorem enters {P : Program} {f : FuncId} {fn : Func} (hf : P.funcs[f]? = some fn) (hname : (fn.name == "runtime.NumGoroutine") = false) (hb : fn.body.isSome = true) (args : Array Value) (w : World) :
    (callFunc f args).run P w = .ok (.enter f args) w := by
  have h1 : fn.name ≠ "runtime.NumGoroutine" := by simpa using hname
  obtain ⟨c, hc⟩ := Option.isSome_iff_exists.1 hb
  simp [callFunc, hf, h1, hc]
theorem run_any (F : Nat) (p : Int → Bool) (hE : ∀ (args : Array Value) (w : World), (callFunc F args).run Try.prog w = .ok (.enter F args) w) (hF : ∀ (x : Int) (w : World), Calls Try.prog F #[.int .i32 x] w fun e w' => e = .returned (.bool (p x)) ∧ Kept w w')
    (A : Option Addr) (n c : Nat) (l : List Int) (fr : Nat) (w : World) (h : Sl w 1 A n c (l.map (Value.int .i32))) (hfr : fr ≤ n) :
    Calls Try.prog 53 #[.slice A n c, .int .i64 fr, .func (.func F) #[] #[]] w fun e w' => e = .returned (.int .i64 (runF p (l.drop fr))) ∧ Kept w w' := by
  have HF := Lib.hid hF
  clear hF
  have hcap := h.cap
  have hmax := h.max
  have hcut := run_cut_l appT_runes A n c fr hfr
  have hs := h.from1 hfr
  have HL := Lib.hid h.llen1
  have hnil := eql_nilFunc F
  obtain ⟨A2, hA2⟩ : ∃ A2, A2 = cutA A c fr 1 := ⟨_, rfl⟩
  rw [← hA2] at hcut hs
  clear hA2
  have d1 : decide ((fr : Int) < 0) = false := by simp
  have d2 : decide (n < fr) = false := by simp; omega
  go_enter Try.func53, Try.ntmps53
  go_wp2
  go_loopw [25] (fun i wr => ∃ k : Nat, k ≤ n - fr ∧ i = .int .i64 k ∧ Kept w wr ∧ Hid (runF p (l.drop fr) = k + runF p (l.drop (fr + k)))) (fun i _ => (n - fr) - (intOf i).toNat)
  case atStart => exact ⟨0, Nat.zero_le _, rfl, Kept.refl _, by unfold Hid; simp⟩
  case round =>
    obtain ⟨k, hk, rfl, hkept, hinv⟩ := hrel
    by_cases hlt : k < n - fr
    · obtain ⟨b, o, x, rfl, hx, hc, hb⟩ := (hs.kept hkept).oneb hlt
      have HX := Lib.hid (show l[fr + k]? = some x by rw [List.getElem?_drop] at hx; exact hx)
      clear hx
      cases hpx : p x
      · go_wp2_with fail
        refine (HF.out x _).mono ?_
        rintro e w1 ⟨rfl, hk1⟩
        go_wp2
        go_ret
        exact ⟨ret_int (by rw [hinv.out, runF_no HX.out hpx]; rfl), hkept.trans hk1⟩
      · go_wp2_with fail
        refine (HF.out x _).mono ?_
        rintro e w1 ⟨rfl, hk1⟩
        go_wp2
        go_roundw
        case rel => exact ⟨k + 1, by omega, by go_num, hkept.trans hk1, by unfold Hid; rw [hinv.out, runF_yes HX.out hpx, Nat.add_assoc fr k 1]; omega⟩
        case measure => simp [intOf]; omega
    · go_wp2
      go_ret
      have hl := HL.out
      exact ⟨ret_int (by rw [hinv.out, runF_end (by omega)]; omega), hkept⟩

theorem lead_any (A : Option Addr) (n c : Nat) (l : List Int) (fr : Int) (w : World) (h : Sl w 1 A n c (l.map (Value.int .i32))) (h0 : 0 ≤ fr) :
    Calls Try.prog 81 #[.slice A n c, .int .i64 fr] w fun e w' => e = .returned (.int .i64 (leadF (l.drop fr.toNat))) ∧ Kept w w' := by
  have hmax := h.max
  have hcap := h.cap
  have HL := Lib.hid h.llen1
  obtain ⟨k, rfl⟩ := Int.eq_ofNat_of_zero_le h0
  rw [Int.toNat_natCast]
  by_cases hlt : k < n
  · obtain ⟨b, o, x, rfl, hx, hc, hb⟩ := h.oneb hlt
    cases hs : nameStart x
    · have HV : Hid (leadF (l.drop k) = 0) := by
        unfold Hid leadF
        rw [drop_get hx]
        simp [hs]
      clear hx
      go_enter Try.func81, Try.ntmps81
      go_wp2_with fail
      refine (nameStart_any x _).mono ?_
      rintro e w1 ⟨rfl, hk1⟩
      go_wp2
      go_ret
      exact ⟨ret_int (by rw [HV.out]; rfl), hk1⟩
    · have HV : Hid (leadF (l.drop k) = runF nameChar (l.drop k)) := by
        unfold Hid leadF
        rw [drop_get hx]
        simp [hs]
      clear hx
      go_enter Try.func81, Try.ntmps81
      go_wp2_with fail
      refine (nameStart_any x _).mono ?_
      rintro e w1 ⟨rfl, hk1⟩
      go_wp2_with fail
      refine (run_any _ nameChar (enters Try.func93 (by kernel_rfl) (by kernel_rfl)) nameChar_any _ _ _ l k _ (h.kept hk1) (by omega)).mono ?_
      rintro e w2 ⟨rfl, hk2⟩
      go_wp2
      go_ret
      exact ⟨ret_int (by rw [HV.out]), hk1.trans hk2⟩
  · have HV : Hid (leadF (l.drop k) = 0) := by
      have := HL.out
      unfold Hid
      rw [List.drop_eq_nil_of_le (by omega)]
      rfl
    go_enter Try.func81, Try.ntmps81
    go_wp2_with fail
    go_ret
    exact ⟨ret_int (by rw [HV.out]; rfl), Kept.refl _⟩

theorem startsF_nil (s : List Int) : startsF [] s = true := rfl
theorem startsF_cons (a : Int) (p : List Int) (x : Int) (s : List Int) : startsF (a :: p) (x :: s) = (a == x && startsF p s) := rfl
theorem startsF_short {p s : List Int} (h : s.length < p.length) : startsF p s = false := by
  unfold startsF
  rw [← Bool.not_eq_true, List.isPrefixOf_iff_prefix]
  intro hp
  have := hp.length_le
  omega
end Go.Proofs.Ytmicmmbdkmmnoaa
