/- Chapter 30's example; the law ConfParses, walked. -/
import Derived.Test.YtmicmmbdkmmnoaaConS
import Derived.Test.YtmicmmbdkmmnoaaConT
namespace Go.Proofs.Ytmicmmbdkmmnoaa
open Go.RowKit
attribute [local go_sem ↓] Go.wp_at_zero Go.wp_at_succ

def egS : ByteArray := ⟨#[105, 110, 100, 101, 110, 116, 61, 52, 32, 116, 97, 98, 115]⟩
theorem eg_words : wordsF egS = [⟨#[105, 110, 100, 101, 110, 116, 61, 52]⟩, ⟨#[116, 97, 98, 115]⟩] := by decide +kernel
theorem eg_set : setF ⟨#[105, 110, 100, 101, 110, 116, 61, 52]⟩ = some (0, 4) := by
  rw [setF_field (i := 0) (r := [52]) (by omega) (by rw [ByteArray.toList_eq, ByteArray.toList_eq]; rfl)]
  rfl
theorem eg_set2 : setF ⟨#[116, 97, 98, 115]⟩ = some (5, 0) := by
  cases word_of ⟨#[116, 97, 98, 115]⟩ with
  | field i n hi hn h1 h2 h3 =>
    exfalso
    have he : eqP ⟨#[116, 97, 98, 115]⟩ = none := by
      unfold eqP
      rw [ByteArray.toList_eq]
      rfl
    unfold cnumR at h3
    rw [he] at h3
    cases h3
  | bad i hi h1 h2 h3 =>
    exfalso
    have he : eqP ⟨#[116, 97, 98, 115]⟩ = none := by
      unfold eqP
      rw [ByteArray.toList_eq]
      rfl
    unfold keyR at h2
    rw [he] at h2
    have := name_inj 5 (by omega) i (by omega) h2
    omega
  | flag i hi h1 h2 h3 h4 =>
    have := name_inj 5 (by omega) i (by omega) h3
    subst this
    exact h1
  | other h1 h2 h3 h4 => exact absurd rfl h3
theorem eg_parse : parseF c0 [] (wordsF egS) = some ⟨4, 80, 0, 0, 0, true, false⟩ := by
  rw [eg_words, parseF_new eg_set (by simp), parseF_new eg_set2 (by simp)]
  rfl
set_option maxRecDepth 100000 in
theorem cawake_any (w : World) : Calls Try.prog 10 #[] w fun e w' => e = .returned (.bool true) ∧ Kept w w' := by
  have hp := fun w => parse_any egS w (by decide)
  rw [eg_parse] at hp
  have HP := Lib.hid hp
  have HB := Lib.hid (fun w => break_any ⟨4, 80, 0, 0, 0, true, false⟩ w)
  clear hp
  go_enter Try.func10, Try.ntmps10
  go_wp2_with fail
  refine (HP.out _).mono ?_
  rintro e w2 ⟨he, k2⟩
  have he' : e = .returned (.tuple #[.agg #[.int .i64 4, .int .i64 80, .int .i64 0, .int .i64 0, .int .i64 0, .bool true, .bool false], .int .i64 0]) := he
  subst he'
  clear he
  go_wp2_with fail
  refine (HB.out _).mono ?_
  rintro e w3 ⟨A, d, rfl, hS, k3⟩
  have hl : (breakF (clampF ⟨4, 80, 0, 0, 0, true, false⟩).l).length = 1 := rfl
  rw [hl]
  go_wp2_with fail
  go_ret
  exact ⟨rfl, (k2.alloc _).trans k3⟩
def short100 (s : ByteArray) : ByteArray := if 100 < s.size then s.extract 0 100 else s
set_option maxRecDepth 100000 in
set_option maxHeartbeats 8000000 in
theorem confParses_any (s : ByteArray) (w : World) : Calls Try.prog 3 #[.string s] w fun e w' => e = .returned (.bool true) ∧ Kept w w' := by
  have HA := Lib.hid (fun w => cawake_any w)
  have HO := Lib.hid (fun c w => ours_any c w)
  have hsz : (short100 s).size ≤ 100 := by
    unfold short100
    split
    · rw [ByteArray.size_extract]
      omega
    · omega
  have HS : Hid (short100 s = if 100 < s.size then s.extract 0 100 else s) := rfl
  obtain ⟨S, hS⟩ : ∃ S, short100 s = S := ⟨_, rfl⟩
  rw [hS] at HS hsz
  clear hS
  have hp := fun w => parse_any S w (by omega)
  have hr := fun w => rparse_any S w (by omega)
  obtain ⟨O, hO⟩ : ∃ O, parseF c0 [] (wordsF S) = O := ⟨_, rfl⟩
  rw [hO] at hp hr
  have HP := Lib.hid hp
  have HR := Lib.hid hr
  clear hp hr hO
  go_enter Try.func3, Try.ntmps3
  go_upto_if 9 with fail
  go_cut [0] (fun x wx => x = .string S ∧ wx = w)
  case first =>
    by_cases h : 100 < s.size
    · have h1 : (100 : Int) < s.size := by omega
      have hE : S = s.extract 0 100 := by have := HS.out; rwa [if_pos h] at this
      have HE := Lib.hid hE
      clear hE HS
      go_wp2_with fail
      go_meet
      exact ⟨by rw [HE.out], rfl⟩
    · have h1 : ¬ (100 : Int) < s.size := by omega
      have hE : S = s := by have := HS.out; rwa [if_neg h] at this
      have HE := Lib.hid hE
      clear hE HS
      go_wp2_with fail
      go_meet
      exact ⟨by rw [HE.out], rfl⟩
  case rest =>
  obtain ⟨rfl, rfl⟩ := hcut
  obtain ⟨w0, hw0⟩ : ∃ z, z = wc := ⟨_, rfl⟩
  subst hw0
  clear HS
  cases O with
  | none =>
    go_wp2_with fail
    refine (HP.out _).mono ?_
    rintro e w2 ⟨he, k2⟩
    have he' : e = .returned (.tuple #[.agg #[.int .i64 0, .int .i64 0, .int .i64 0, .int .i64 0, .int .i64 0, .bool false, .bool false], .int .i64 4]) := he
    subst he'
    clear he
    go_upto_region 4 with fail
    have b3 := Blk.new w2 #[.int .i64 0, .int .i64 0, .int .i64 0, .int .i64 0, .int .i64 0, .bool false, .bool false] 23
    have k3 := k2.alloc (.cells #[.int .i64 0, .int .i64 0, .int .i64 0, .int .i64 0, .int .i64 0, .bool false, .bool false] 23)
    generalize w2.alloc (.cells #[.int .i64 0, .int .i64 0, .int .i64 0, .int .i64 0, .int .i64 0, .bool false, .bool false] 23) = w3 at b3 k3 ⊢
    obtain ⟨g3, hg3⟩ : ∃ g, w2.heap.size = g := ⟨_, rfl⟩
    rw [hg3] at b3 ⊢
    go_wp2_with fail
    refine (HR.out _).mono ?_
    rintro e w4 ⟨he, k4⟩
    have he' : e = .returned (.tuple #[.agg #[.int .i64 0, .int .i64 0, .int .i64 0, .int .i64 0, .int .i64 0, .bool false, .bool false], .bool false]) := he
    subst he'
    clear he
    go_upto_region 5 with fail
    have b5 := Blk.new w4 #[.int .i64 0, .int .i64 0, .int .i64 0, .int .i64 0, .int .i64 0, .bool false, .bool false] 27
    have b35 := (b3.kept k4).alloc (.cells #[.int .i64 0, .int .i64 0, .int .i64 0, .int .i64 0, .int .i64 0, .bool false, .bool false] 27)
    have k5 := (k3.trans k4).alloc (.cells #[.int .i64 0, .int .i64 0, .int .i64 0, .int .i64 0, .int .i64 0, .bool false, .bool false] 27)
    generalize w4.alloc (.cells #[.int .i64 0, .int .i64 0, .int .i64 0, .int .i64 0, .int .i64 0, .bool false, .bool false] 27) = w5 at b5 b35 k5 ⊢
    obtain ⟨g5, hg5⟩ : ∃ g, w4.heap.size = g := ⟨_, rfl⟩
    rw [hg5] at b5 ⊢
    clear b3 k3 k2 k4 hg3 hg5
    have c3 : ∀ (p : KeptFrom w5) (i : Nat), p.x.cell? ⟨g3, i, none⟩ = (#[.int .i64 0, .int .i64 0, .int .i64 0, .int .i64 0, .int .i64 0, .bool false, .bool false] : Array Value)[i]? := fun p => (b35.kept p.k).cell
    have c5 : ∀ (p : KeptFrom w5) (i : Nat), p.x.cell? ⟨g5, i, none⟩ = (#[.int .i64 0, .int .i64 0, .int .i64 0, .int .i64 0, .int .i64 0, .bool false, .bool false] : Array Value)[i]? := fun p => (b5.kept p.k).cell
    have HOU : Hid (∀ w, Calls Try.prog 9 #[.agg #[.int .i64 0, .int .i64 0, .int .i64 0, .int .i64 0, .int .i64 0, .bool false, .bool false]] w fun e w' => e = .returned (.agg #[.int .i64 0, .int .i64 0, .int .i64 0, .int .i64 0, .int .i64 0, .bool false, .bool false]) ∧ Kept w w') := fun w => HO.out zeroC w
    clear b35 b5 HO
    refine wp_region_kept (by kernel_rfl) (by kernel_rfl) ?_
    repeat (quiet_step (first | (go_at_call 9; with_reducible exact Calls.kept_of (HOU.out _)) | (go_at_call 10; with_reducible exact Calls.kept_of (HA.out _))))
    refine wpQuiet_nil ?_
    rintro _ ⟨⟨w6, k6⟩, rfl⟩
    go_wp2_with fail
    go_ret
    exact ⟨rfl, k5.trans k6⟩
  | some c =>
    obtain ⟨ci, cd, cq, ce, cl, ct, cr⟩ := c
    go_wp2_with fail
    refine (HP.out _).mono ?_
    rintro e w2 ⟨he, k2⟩
    have he' : e = .returned (.tuple #[.agg #[.int .i64 ci, .int .i64 cd, .int .i64 cq, .int .i64 ce, .int .i64 cl, .bool ct, .bool cr], .int .i64 0]) := he
    subst he'
    clear he
    go_upto_region 4 with fail
    have b3 := Blk.new w2 #[.int .i64 ci, .int .i64 cd, .int .i64 cq, .int .i64 ce, .int .i64 cl, .bool ct, .bool cr] 23
    have k3 := k2.alloc (.cells #[.int .i64 ci, .int .i64 cd, .int .i64 cq, .int .i64 ce, .int .i64 cl, .bool ct, .bool cr] 23)
    generalize w2.alloc (.cells #[.int .i64 ci, .int .i64 cd, .int .i64 cq, .int .i64 ce, .int .i64 cl, .bool ct, .bool cr] 23) = w3 at b3 k3 ⊢
    obtain ⟨g3, hg3⟩ : ∃ g, w2.heap.size = g := ⟨_, rfl⟩
    rw [hg3] at b3 ⊢
    go_wp2_with fail
    refine (HR.out _).mono ?_
    rintro e w4 ⟨he, k4⟩
    have he' : e = .returned (.tuple #[.agg #[.int .i64 ci, .int .i64 cd, .int .i64 cq, .int .i64 ce, .int .i64 cl, .bool ct, .bool cr], .bool true]) := he
    subst he'
    clear he
    go_upto_region 5 with fail
    have b5 := Blk.new w4 #[.int .i64 ci, .int .i64 cd, .int .i64 cq, .int .i64 ce, .int .i64 cl, .bool ct, .bool cr] 27
    have b35 := (b3.kept k4).alloc (.cells #[.int .i64 ci, .int .i64 cd, .int .i64 cq, .int .i64 ce, .int .i64 cl, .bool ct, .bool cr] 27)
    have k5 := (k3.trans k4).alloc (.cells #[.int .i64 ci, .int .i64 cd, .int .i64 cq, .int .i64 ce, .int .i64 cl, .bool ct, .bool cr] 27)
    generalize w4.alloc (.cells #[.int .i64 ci, .int .i64 cd, .int .i64 cq, .int .i64 ce, .int .i64 cl, .bool ct, .bool cr] 27) = w5 at b5 b35 k5 ⊢
    obtain ⟨g5, hg5⟩ : ∃ g, w4.heap.size = g := ⟨_, rfl⟩
    rw [hg5] at b5 ⊢
    clear b3 k3 k2 k4 hg3 hg5
    have c3 : ∀ (p : KeptFrom w5) (i : Nat), p.x.cell? ⟨g3, i, none⟩ = (#[.int .i64 ci, .int .i64 cd, .int .i64 cq, .int .i64 ce, .int .i64 cl, .bool ct, .bool cr] : Array Value)[i]? := fun p => (b35.kept p.k).cell
    have c5 : ∀ (p : KeptFrom w5) (i : Nat), p.x.cell? ⟨g5, i, none⟩ = (#[.int .i64 ci, .int .i64 cd, .int .i64 cq, .int .i64 ce, .int .i64 cl, .bool ct, .bool cr] : Array Value)[i]? := fun p => (b5.kept p.k).cell
    have HOU : Hid (∀ w, Calls Try.prog 9 #[.agg #[.int .i64 ci, .int .i64 cd, .int .i64 cq, .int .i64 ce, .int .i64 cl, .bool ct, .bool cr]] w fun e w' => e = .returned (.agg #[.int .i64 ci, .int .i64 cd, .int .i64 cq, .int .i64 ce, .int .i64 cl, .bool ct, .bool cr]) ∧ Kept w w') := fun w => HO.out ⟨ci, cd, cq, ce, cl, ct, cr⟩ w
    clear b35 b5 HO
    refine wp_region_kept (by kernel_rfl) (by kernel_rfl) ?_
    repeat (quiet_step (first | (go_at_call 9; with_reducible exact Calls.kept_of (HOU.out _)) | (go_at_call 10; with_reducible exact Calls.kept_of (HA.out _))))
    refine wpQuiet_nil ?_
    rintro _ ⟨⟨w6, k6⟩, rfl⟩
    go_wp2_with fail
    go_ret
    exact ⟨rfl, k5.trans k6⟩
end Go.Proofs.Ytmicmmbdkmmnoaa
