/- Layer 9: the law DtdlexWhole, walked. -/
import Derived.Test.YtnfcfpcpfnhcnaaDtdJ
import Derived.Test.YtnfcfpcpfnhcnaaDtdR
namespace Go.Proofs.Ytnfcfpcpfnhcnaa
open Go.RowKit
attribute [local go_sem ↓] Go.wp_at_zero Go.wp_at_succ

def FewP (A : Option Addr) (n c : Nat) (l : List Int) (n' : Nat) : Prop := ∀ W0, Sl W0 1 A n c (l.map (Value.int .i32)) → Sl W0 1 A n' c ((l.take 160).map (Value.int .i32))
theorem dFew_any (A : Option Addr) (n c : Nat) (l : List Int) (w : World) (h : Sl w 1 A n c (l.map (Value.int .i32))) :
    Calls Try.prog 7 #[.slice A n c] w fun e w' => ∃ n' : Nat, e = .returned (.slice A n' c) ∧ FewP A n c l n' ∧ n' ≤ 160 ∧ w = w' := by
  have hpc := h.cap
  have hpm := h.max
  by_cases h5 : 160 < n
  · have hcut : ∀ wv : World, (Instr.slice 22 (.slice A n c) none (some (.int .i64 160)) none).run Try.prog wv = .ok (.slice A 160 c) wv := run_cut_h appT_runes A n c 160 (by omega)
    have HP : FewP A n c l 160 := fun W0 h => h.to1 (m := 160) (by omega)
    have l1 : (160 : Int) < n := by omega
    go_enter Try.func7, Try.ntmps7
    go_wp2_with fail
    go_ret
    exact ⟨160, by simp, HP, Nat.le_refl _, rfl⟩
  · have hl := h.llen1
    have HP : FewP A n c l n := by
      intro W0 h
      rw [List.take_of_length_le (by omega)]
      exact h
    have l1 : ¬ (160 : Int) < n := by omega
    clear hl
    go_enter Try.func7, Try.ntmps7
    go_wp2_with fail
    go_ret
    exact ⟨n, by simp, HP, by omega, rfl⟩
theorem Cov.step {b a : Int} {L : List Prt} {k : Nat} {p : Prt} (h : Cov b a (L.drop k)) (hp : L[k]? = some p) : p.f = a ∧ p.f < p.t ∧ Cov b p.t (L.drop (k + 1)) := by
  rw [drop_get hp] at h
  exact h
theorem covers_any (PA : Option Addr) (pn pc : Nat) (P : List Prt) (f t : Int) (w : World) (hP : Sl w 3 PA pn pc (P.flatMap prtC)) (hpn : pn ≤ 1000000) (hc : Cov t f P) :
    Calls Try.prog 19 #[.slice PA pn pc, .int .i64 f, .int .i64 t] w fun e w' => e = .returned (.bool true) ∧ Kept w w' := by
  have hPl := hP.llen prtC_len (by omega)
  have HPL := Lib.hid hPl
  have hcap := hP.cap
  have hmax := hP.max
  have HC := Lib.hid hc
  clear hPl hc
  go_enter Try.func19, Try.ntmps19
  go_wp2_with fail
  go_loopw [1, 11] (fun v i wr => ∃ (j : Nat) (a : Int), j ≤ pn ∧ i = .int .i64 j ∧ v = .int .i64 a ∧ Kept w wr ∧ Hid (Cov t a (P.drop j))) (fun _ i _ => pn - (intOf i).toNat)
  case atStart => exact ⟨0, f, Nat.zero_le _, rfl, rfl, Kept.refl _, HC.out⟩
  case round =>
    obtain ⟨j, a, hj, rfl, rfl, hkept, hinv⟩ := hrel
    by_cases hlt : j < pn
    · obtain ⟨b, o, p, rfl, hp, hpc, hb⟩ := (hP.kept hkept).elemb prtC_len (by omega) hlt
      obtain ⟨e1, e2, e3⟩ := hinv.out.step hp
      have c0 : wr.cell? ⟨b, o + j * 3, none⟩ = some (.int .i64 p.k) := hpc 0 _ rfl
      have c1 : wr.cell? ⟨b, o + j * 3 + 1, none⟩ = some (.int .i64 p.f) := hpc 1 _ rfl
      have c2 : wr.cell? ⟨b, o + j * 3 + 2, none⟩ = some (.int .i64 p.t) := hpc 2 _ rfl
      obtain ⟨pk, pf, pt⟩ := p
      dsimp only at e1 e2 e3 c0 c1 c2
      subst e1
      have l1 : (j : Int) < pn := by omega
      have l2 : ¬ pt ≤ pf := by omega
      have HE := Lib.hid e3
      clear hpc hp e3
      go_wp2_with fail
      go_roundw
      case rel => exact ⟨j + 1, pt, hlt, by go_num, rfl, hkept.alloc _, HE.out⟩
      case measure => simp [intOf]; omega
    · obtain rfl : j = pn := by omega
      have hend := hinv.out
      rw [List.drop_eq_nil_of_le (by rw [HPL.out]; exact Nat.le_refl _)] at hend
      have hat : a = t := hend
      subst hat
      go_wp2_with fail
      go_ret
      exact ⟨rfl, hkept⟩
def exB : ByteArray := ⟨#[60, 33, 68, 79, 67, 84, 89, 80, 69, 32, 97, 32, 83, 89, 83, 84, 69, 77, 32, 39, 98, 39, 32, 91, 37, 99, 59, 93, 62]⟩
theorem ex_read : readF (strI exB) (partL (strI exB) 0 29) = ⟨⟨2, 10, 11⟩, Prt.none_, ⟨4, 19, 22⟩, ⟨6, 24, 27⟩, true⟩ := by kernel_rfl
theorem ex_items : rowL itemF (strI exB) 24 27 = [⟨14, 24, 27⟩] := by kernel_rfl
set_option maxHeartbeats 4000000 in
theorem dAwake_any (w : World) : Calls Try.prog 11 #[] w fun e w' => e = .returned (.bool true) ∧ Kept w w' := by
  have H1 := Lib.hid (lrunes_any exB w (asc_of (by decide +kernel)) (by decide +kernel))
  have hlen : (strI exB).length = 29 := by decide +kernel
  have H2 := Lib.hid (fun (A : Option Addr) (c : Nat) (w' : World) (h : Sl w' 1 A 29 c ((strI exB).map (Value.int .i32))) => dread_any A 29 c (strI exB) 0 29 w' h (by omega) (by have := parts_ok (strI exB) 0 29; rw [hlen] at this; exact this) (by have := parts_len (strI exB) 0 29; omega))
  have H3 := Lib.hid (fun (A : Option Addr) (c : Nat) (w' : World) (h : Sl w' 1 A 29 c ((strI exB).map (Value.int .i32))) => ditems_any A 29 c (strI exB) 24 27 w' h (by omega))
  rw [ex_read] at H2
  rw [ex_items] at H3
  clear hlen
  go_enter Try.func11, Try.ntmps11
  go_wp2_with fail
  refine H1.out.mono ?_
  rintro e w1 ⟨VA, VC, rfl, hS, k1⟩
  have hS' : Sl w1 1 VA 29 VC ((strI exB).map (Value.int .i32)) := hS
  have hsz : exB.size = 29 := by decide +kernel
  rw [hsz]
  clear hS hsz H1
  go_wp2_with fail
  refine (H2.out _ _ _ hS').mono ?_
  rintro e w2 ⟨rfl, k2⟩
  simp only [Hd.val, hdA, Prt.none_]
  have hS2 := hS'.kept k2
  have K2 := k1.trans k2
  have k3 : Kept w2 (w2.alloc (.cells #[.int .i64 2, .int .i64 10, .int .i64 11, .int .i64 0, .int .i64 0, .int .i64 0, .int .i64 4, .int .i64 19, .int .i64 22, .int .i64 6, .int .i64 24, .int .i64 27, .bool true] 34)) := (Kept.refl w2).alloc _
  have b3 := Blk.new w2 #[.int .i64 2, .int .i64 10, .int .i64 11, .int .i64 0, .int .i64 0, .int .i64 0, .int .i64 4, .int .i64 19, .int .i64 22, .int .i64 6, .int .i64 24, .int .i64 27, .bool true] 34
  go_upto_region 3 with fail
  change Code.wp _ _ _ _ (w2.alloc (.cells #[.int .i64 2, .int .i64 10, .int .i64 11, .int .i64 0, .int .i64 0, .int .i64 0, .int .i64 4, .int .i64 19, .int .i64 22, .int .i64 6, .int .i64 24, .int .i64 27, .bool true] 34))
  generalize w2.alloc (.cells #[.int .i64 2, .int .i64 10, .int .i64 11, .int .i64 0, .int .i64 0, .int .i64 0, .int .i64 4, .int .i64 19, .int .i64 22, .int .i64 6, .int .i64 24, .int .i64 27, .bool true] 34) = w3 at k3 b3 ⊢
  generalize w2.heap.size = g3 at b3 ⊢
  have d10 : w3.cell? ⟨g3, 10, none⟩ = some (.int .i64 24) := b3.cell 10
  have d11 : w3.cell? ⟨g3, 11, none⟩ = some (.int .i64 27) := b3.cell 11
  go_wp2_with fail
  refine (H3.out _ _ _ (hS2.kept k3)).mono ?_
  rintro e w4 ⟨IA, m, ic, hm, rfl, hI, k4⟩
  obtain rfl : m = 1 := hm
  obtain ⟨ib, io, rfl, hcell⟩ := hI.at_ (by omega)
  have x0 : w4.cell? ⟨ib, io, none⟩ = some (.int .i64 14) := hcell 0 _ rfl
  have b4 := b3.kept k4
  have f7 : w4.cell? ⟨g3, 7, none⟩ = some (.int .i64 19) := b4.cell 7
  have f8 : w4.cell? ⟨g3, 8, none⟩ = some (.int .i64 22) := b4.cell 8
  have f12 : w4.cell? ⟨g3, 12, none⟩ = some (.bool true) := b4.cell 12
  have hic := hI.cap
  clear hcell hI d10 d11
  go_wp2_with fail
  go_ret
  exact ⟨rfl, (K2.trans k3).trans k4⟩
set_option maxHeartbeats 4000000 in
theorem dtdlexWhole_any (A : Option Addr) (n c : Nat) (l : List Int) (w : World) (h : Sl w 1 A n c (l.map (Value.int .i32))) :
    Calls Try.prog 6 #[.slice A n c] w fun e w' => e = .returned (.bool true) ∧ Kept w w' := by
  have hF := Lib.hid (dFew_any A n c l w h)
  go_enter Try.func6, Try.ntmps6
  go_wp2_with fail
  refine hF.out.mono ?_
  rintro e w0 ⟨m, rfl, HP, hm, rfl⟩
  have hS := HP _ h
  clear h hF HP
  generalize hl' : l.take 160 = s at hS
  clear hl'
  have hsl := hS.llen1
  have C1 := Lib.hid (cov_parts s 0 m (by omega))
  have C2 := Lib.hid (cov_row itemF_bd s)
  have C3 := Lib.hid (cov_row wordF_bd s)
  rw [hsl] at C2 C3
  have L1 := Lib.hid (parts_len s 0 m)
  have L2 := Lib.hid (cov_len C2.out)
  have L3 := Lib.hid (cov_len C3.out)
  have H1 := Lib.hid (fun w' (kk : Kept w w') => dparts_any A m c s 0 m w' (hS.kept kk) (by omega))
  have H2 := Lib.hid (fun w' (kk : Kept w w') => ditems_any A m c s 0 m w' (hS.kept kk) (by omega))
  have H3 := Lib.hid (fun w' (kk : Kept w w') => dwords_any A m c s 0 m w' (hS.kept kk) (by omega))
  have HSL := Lib.hid hsl
  have HAW := Lib.hid dAwake_any
  clear hsl
  go_wp2_with fail
  refine (H1.out _ (Kept.refl w)).mono ?_
  rintro e w1 ⟨A1, m1, c1, hm1, rfl, hS1, k1⟩
  have hb1 : m1 ≤ 1000 := by have := L1.out; have := HSL.out; omega
  clear hm1
  go_wp2_with fail
  refine (covers_any A1 m1 c1 _ 0 m w1 hS1 (by omega) C1.out).mono ?_
  rintro e w2 ⟨rfl, k2⟩
  have K2 := k1.trans k2
  go_wp2_with fail
  refine (H2.out _ K2).mono ?_
  rintro e w3 ⟨A3, m3, c3, hm3, rfl, hS3, k3⟩
  have hb3 : m3 ≤ 1000 := by have := L2.out; omega
  clear hm3
  go_wp2_with fail
  refine (covers_any A3 m3 c3 _ 0 m w3 hS3 (by omega) C2.out).mono ?_
  rintro e w4 ⟨rfl, k4⟩
  have K4 := (K2.trans k3).trans k4
  go_wp2_with fail
  refine (H3.out _ K4).mono ?_
  rintro e w5 ⟨A5, m5, c5, hm5, rfl, hS5, k5⟩
  have hb5 : m5 ≤ 1000 := by have := L3.out; omega
  clear hm5
  go_wp2_with fail
  refine (covers_any A5 m5 c5 _ 0 m w5 hS5 (by omega) C3.out).mono ?_
  rintro e w6 ⟨rfl, k6⟩
  have K6 := (K4.trans k5).trans k6
  go_wp2_with fail
  refine (HAW.out _).mono ?_
  rintro e w7 ⟨rfl, k7⟩
  go_wp2_with fail
  go_ret
  exact ⟨rfl, K6.trans k7⟩
end Go.Proofs.Ytnfcfpcpfnhcnaa
