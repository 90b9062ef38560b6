/- The laws' small functions, and the law ScriptRead: walked. -/
import Derived.Test.YtmcmicgdkdbgjaaDoorScrJ
import Derived.Test.YtmcmicgdkdbgjaaDoorScrC
namespace Go.Proofs.YtmcmicgdkdbgjaaDoor
open Go.RowKit
attribute [local go_sem ↓] Go.wp_at_zero Go.wp_at_succ

theorem Sl.elemo {w : World} {A : Option Addr} {n c : Nat} {L : List Ov} (h : Sl w 6 A n c (L.flatMap Ov.cl)) {k : Nat} (hk : k < n) : ∃ b i x, A = some ⟨b, i, none⟩ ∧ L[k]? = some x ∧ w.cell? ⟨b, i + k * 6, none⟩ = some (.int .i64 (x.k : Int)) ∧ w.cell? ⟨b, i + k * 6 + 1, none⟩ = some (.slice x.A x.p.length x.c) ∧ w.cell? ⟨b, i + k * 6 + 2, none⟩ = some (.slice x.B x.q.length x.d) ∧ w.cell? ⟨b, i + k * 6 + 3, none⟩ = some (.int .i64 (x.n : Int)) ∧ w.cell? ⟨b, i + k * 6 + 4, none⟩ = some (.string (strB x.a)) ∧ w.cell? ⟨b, i + k * 6 + 5, none⟩ = some (.string (strB x.t)) := by
  obtain ⟨b, i, x, e, hx, hc, hb⟩ := h.elemb (enc := Ov.cl) (fun _ => rfl) (by omega) hk
  exact ⟨b, i, x, e, hx, hc 0 _ rfl, hc 1 _ rfl, hc 2 _ rfl, hc 3 _ rfl, hc 4 _ rfl, hc 5 _ rfl⟩
theorem awake_parse : parseF [115, 101, 116, 32, 48, 47, 49, 32, 34, 120, 34, 32, 34, 97, 92, 120, 48, 97, 34, 10] = .ok [⟨5, [0, 1], [], 0, [120], [97, 10]⟩] := by rfl
set_option maxRecDepth 100000 in
set_option maxHeartbeats 4000000 in
theorem awake_any (w : World) : Calls Tryd.prog 10 #[] w fun e w' => e = .returned (.bool true) ∧ Kept w w' := by
  have hp := parse_any ⟨#[115, 101, 116, 32, 48, 47, 49, 32, 34, 120, 34, 32, 34, 97, 92, 120, 48, 97, 34, 10]⟩ w (by decide)
  have e0 : (⟨#[115, 101, 116, 32, 48, 47, 49, 32, 34, 120, 34, 32, 34, 97, 92, 120, 48, 97, 34, 10]⟩ : ByteArray).toList = [115, 101, 116, 32, 48, 47, 49, 32, 34, 120, 34, 32, 34, 97, 92, 120, 48, 97, 34, 10] := by rw [ByteArray.toList_eq]
  rw [e0, awake_parse] at hp
  have HP : Hid (Calls Tryd.prog 11 #[.string ⟨#[115, 101, 116, 32, 48, 47, 49, 32, 34, 120, 34, 32, 34, 97, 92, 120, 48, 97, 34, 10]⟩] w fun e w' => ∃ (b i VC : Nat) (V2 : Value), e = .returned (.tuple #[.slice (some ⟨b, i, none⟩) 1 VC, .int .i64 0, .int .i64 0]) ∧ w'.cell? ⟨b, i, none⟩ = some (.int .i64 5) ∧ (∃ A c, w'.cell? ⟨b, i + 1, none⟩ = some (.slice A 2 c)) ∧ w'.cell? ⟨b, i + 4, none⟩ = some (.string ⟨#[120]⟩) ∧ w'.cell? ⟨b, i + 5, none⟩ = some (.string ⟨#[97, 10]⟩) ∧ 1 ≤ VC ∧ VC ≤ 9223372036854775807 ∧ Kept w w') := by
    refine hp.mono ?_
    rintro e w' ⟨hk, VA, VC, L, he, hS, hL, _⟩
    have hl : L.length = 1 := by
      have := congrArg List.length hL
      simpa using this
    obtain ⟨o, rfl⟩ := List.length_eq_one_iff.1 hl
    obtain ⟨b, i, x, rfl, hx, c0, c1, c2, c3, c4, c5⟩ := hS.elemo (k := 0) (by simp)
    obtain rfl : o = x := by simpa using hx
    obtain ⟨ok, oA, oc, op, oB, od, oq, on, oa, ot⟩ := o
    simp only [List.map_cons, List.map_nil, Ov.st, List.cons.injEq, St.mk.injEq, and_true] at hL
    obtain ⟨rfl, rfl, rfl, rfl, rfl, rfl⟩ := hL
    simp only [Nat.zero_mul, Nat.add_zero] at c0 c1 c2 c3 c4 c5
    exact ⟨b, i, VC, .bool true, he, c0, ⟨oA, oc, c1⟩, c4, c5, hS.cap, hS.max, hk⟩
  clear hp e0
  go_enter Tryd.func10, Tryd.ntmps10
  go_wp2_with fail
  refine HP.out.mono ?_
  rintro e w1 ⟨b, i, VC, _, rfl, c0, ⟨A, c, c1⟩, c4, c5, hv1, hv2, k1⟩
  go_wp2_with fail
  go_ret
  exact ⟨rfl, k1⟩
theorem short_any (s : ByteArray) (m : Nat) (w : World) (hm : m ≤ 1000) : Calls Tryd.prog 7 #[.string s, .int .i64 (m : Int)] w fun e w' => ∃ P : ByteArray, e = .returned (.string P) ∧ P.size ≤ m ∧ w = w' := by
  by_cases h : m < s.size
  · have l1 : (m : Int) < s.size := by omega
    have l2 : (0 : Int) ≤ m := by omega
    have l3 : (m : Int) ≤ s.size := by omega
    have l4 : (m : Int).toNat = m := by omega
    have hP : (s.extract 0 m).size ≤ m := by rw [ByteArray.size_extract]; omega
    go_enter Tryd.func7, Tryd.ntmps7
    go_wp2_with fail
    go_ret
    exact ⟨_, rfl, hP, rfl⟩
  · have l1 : ¬ (m : Int) < s.size := by omega
    go_enter Tryd.func7, Tryd.ntmps7
    go_wp2_with fail
    go_ret
    exact ⟨s, rfl, by omega, rfl⟩
set_option maxHeartbeats 4000000 in
theorem scriptRead_any (s : ByteArray) (w : World) : Calls Tryd.prog 3 #[.string s] w fun e w' => e = .returned (.bool true) ∧ Kept w w' := by
  have HS : Hid (Calls Tryd.prog 7 #[.string s, .int .i64 80] w fun e w' => ∃ P : ByteArray, e = .returned (.string P) ∧ P.size ≤ 80 ∧ w = w') := short_any s 80 w (by omega)
  go_enter Tryd.func3, Tryd.ntmps3
  go_wp2_with fail
  refine HS.out.mono ?_
  rintro e w1 ⟨P, rfl, hP, rfl⟩
  have h1 := sread_any P w (by omega)
  have h2 := fun w' => rread_any P w' (by omega)
  have HA := Lib.hid (fun w' => awake_any w')
  cases hr : readF P.toList with
  | none =>
    rw [hr] at h1
    have H1 : Hid (Calls Tryd.prog 8 #[.string P] w fun e w' => e = .returned (.tuple #[.string ⟨#[]⟩, .int .i64 0, .bool false]) ∧ Kept w w') := h1
    have H2 : Hid (∀ w', Calls Tryd.prog 9 #[.string P] w' fun e w'' => e = .returned (.tuple #[.string ⟨#[]⟩, .int .i64 0, .bool false]) ∧ Kept w' w'') := by
      intro w'
      have := h2 w'
      rw [hr] at this
      exact this
    clear h1 h2 hr
    go_wp2_with fail
    refine H1.out.mono ?_
    rintro e w2 ⟨rfl, k2⟩
    go_wp2_with fail
    refine (H2.out _).mono ?_
    rintro e w3 ⟨rfl, k3⟩
    go_wp2_with fail
    refine (HA.out _).mono ?_
    rintro e w4 ⟨rfl, k4⟩
    go_wp2_with fail
    go_ret
    exact ⟨rfl, (k2.trans k3).trans k4⟩
  | some x =>
    obtain ⟨t, n⟩ := x
    rw [hr] at h1
    have H1 : Hid (Calls Tryd.prog 8 #[.string P] w fun e w' => e = .returned (.tuple #[.string (strB t), .int .i64 (n : Int), .bool true]) ∧ Kept w w') := h1
    have H2 : Hid (∀ w', Calls Tryd.prog 9 #[.string P] w' fun e w'' => e = .returned (.tuple #[.string (strB t), .int .i64 (n : Int), .bool true]) ∧ Kept w' w'') := by
      intro w'
      have := h2 w'
      rw [hr] at this
      exact this
    clear h1 h2 hr
    generalize strB t = T at H1 H2
    go_wp2_with fail
    refine H1.out.mono ?_
    rintro e w2 ⟨rfl, k2⟩
    go_wp2_with fail
    refine (H2.out _).mono ?_
    rintro e w3 ⟨rfl, k3⟩
    go_wp2_with fail
    refine (HA.out _).mono ?_
    rintro e w4 ⟨rfl, k4⟩
    go_wp2_with fail
    go_ret
    exact ⟨rfl, (k2.trans k3).trans k4⟩
end Go.Proofs.YtmcmicgdkdbgjaaDoor
