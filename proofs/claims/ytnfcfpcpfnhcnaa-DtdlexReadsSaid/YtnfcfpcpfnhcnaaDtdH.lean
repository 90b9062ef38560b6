/- Layer 9: the reader's inside: walked. Printed by gen_dtdh.py. -/
import Derived.Test.YtnfcfpcpfnhcnaaDtdG
namespace Go.Proofs.Ytnfcfpcpfnhcnaa
open Go.RowKit
attribute [local go_sem ↓] Go.wp_at_zero Go.wp_at_succ

theorem tk_le {P : List Prt} {a k pn : Nat} {ks : List Int} (h : tk P a ks = true) (hk : ks.length = k) (hk0 : 0 < k) (hP : P.length = pn) : a + k ≤ pn := by
  rcases tk_len h with h1 | h1
  · omega
  · rw [h1] at hk
    simp at hk
    omega
structure InR where
  ok : Bool
  a : Nat
  sb : Prt
def inSub (P : List Prt) (a : Nat) : Nat × Prt := if tk P a [6] then (a + 1, nthP P a) else (a, Prt.none_)
def inEnd (P : List Prt) (a : Nat) : Bool × Nat := if tk P a [5] then (true, if tk P (a + 1) [3] then a + 2 else a + 1) else (false, if tk P a [3] then a + 1 else a)
def inD (P : List Prt) (a : Nat) : InR :=
  if tk P a [5] then ⟨(inEnd P (inSub P (a + 1)).1).1, (inEnd P (inSub P (a + 1)).1).2, (inSub P (a + 1)).2⟩ else ⟨true, a, Prt.none_⟩
def InOf (r : InR) (W : World) (g gh : Nat) (A : Option Addr) (n c : Nat) (PA : Option Addr) (pn pc : Nat) (nm pb sy : Prt) (e : Ending) (w' : World) : Prop :=
  e = .returned (.bool r.ok) ∧ r.a ≤ pn ∧ Rx W w' g gh A n c PA pn pc r.a (hdA nm pb sy r.sb false)
set_option maxHeartbeats 8000000 in
theorem inside_any {W w : World} {g gh n c pn pc a : Nat} {A PA : Option Addr} {P : List Prt} {nm pb sy : Prt} (R : Rx W w g gh A n c PA pn pc a (hdA nm pb sy Prt.none_ false))
    (hP : Sl W 3 PA pn pc (P.flatMap prtC)) (hpn : pn ≤ 1000000) (ha : a ≤ pn) :
    Calls Try.prog 33 #[.pointer (some ⟨g, 0, none⟩), .pointer (some ⟨gh, 0, none⟩)] w fun e w' => InOf (inD P a) W g gh A n c PA pn pc nm pb sy e w' := by
  have n1 := prt_nil_eq
  have n2 := prt_some_eq
  have n3 := prt_nil_ne
  have n4 := prt_some_ne
  have hPl := hP.llen prtC_len (by omega)
  have HPL := Lib.hid hPl
  have HT := Lib.hid (fun (w' : World) (a' : Nat) (hs : Array Value) (R' : Rx W w' g gh A n c PA pn pc a' hs) (ha' : a' ≤ pn) (k : Int) => takes_rx (R'.kept ((Kept.refl w').alloc (.cells #[.int .i64 k] 3))) hP ha' hpn [k] 1 rfl (by omega) (by omega) (some ⟨w'.heap.size, 0, none⟩) 1 (Sl.lit rfl (by omega)))
  clear hPl
  obtain ⟨V, hV⟩ : ∃ V, inD P a = V := ⟨_, rfl⟩
  rw [hV]
  unfold inD at hV
  cases t1 : tk P a [5]
  · rw [t1] at hV
    have HV := Lib.hid (show V = ⟨true, a, Prt.none_⟩ by simpa using hV.symm)
    clear hV
    go_enter Try.func33, Try.ntmps33
    go_wp2_with fail
    refine (HT.out w a _ R ha 5).mono ?_
    intro e w1 h3
    rw [t1] at h3
    obtain ⟨rfl, R1⟩ := h3
    go_wp2_with fail
    go_ret
    rw [HV.out]
    exact ⟨rfl, ha, R1⟩
  rw [t1, if_pos rfl] at hV
  have ha1 := tk_le (k := 1) t1 rfl (by omega) HPL.out
  unfold inSub inEnd at hV
  cases t2 : tk P (a + 1) [6]
  · rw [t2] at hV
    simp only [if_true, Bool.false_eq_true, if_false] at hV
    cases t3 : tk P (a + 1) [5]
    · rw [t3] at hV
      cases t4 : tk P (a + 1) [3]
      · rw [t4] at hV
        have HV := Lib.hid (show V = ⟨false, (a + 1), Prt.none_⟩ by simpa using hV.symm)
        clear hV
        go_enter Try.func33, Try.ntmps33
        go_wp2_with fail
        refine (HT.out w a _ R ha 5).mono ?_
        intro e w1 h3
        rw [t1] at h3
        obtain ⟨bw1, ow1, cw1, hcw1, rfl, ⟨hbw1, hTw1⟩, R1⟩ := h3
        go_wp2_with fail
        refine (HT.out w1 (a + 1) _ R1 ha1 6).mono ?_
        intro e w2 h3
        rw [t2] at h3
        obtain ⟨rfl, R2⟩ := h3
        go_wp2_with fail
        refine (HT.out w2 (a + 1) _ R2 ha1 5).mono ?_
        intro e w5 h3
        rw [t3] at h3
        obtain ⟨rfl, R5⟩ := h3
        go_wp2_with fail
        refine (HT.out w5 (a + 1) _ R5 ha1 3).mono ?_
        intro e w6 h3
        rw [t4] at h3
        obtain ⟨rfl, R6⟩ := h3
        go_wp2_with fail
        go_ret
        rw [HV.out]
        exact ⟨rfl, ha1, R6⟩
      · rw [t4] at hV
        have ha4 := tk_le (k := 1) t4 rfl (by omega) HPL.out
        have HV := Lib.hid (show V = ⟨false, (a + 1) + 1, Prt.none_⟩ by simpa using hV.symm)
        clear hV
        go_enter Try.func33, Try.ntmps33
        go_wp2_with fail
        refine (HT.out w a _ R ha 5).mono ?_
        intro e w1 h3
        rw [t1] at h3
        obtain ⟨bw1, ow1, cw1, hcw1, rfl, ⟨hbw1, hTw1⟩, R1⟩ := h3
        go_wp2_with fail
        refine (HT.out w1 (a + 1) _ R1 ha1 6).mono ?_
        intro e w2 h3
        rw [t2] at h3
        obtain ⟨rfl, R2⟩ := h3
        go_wp2_with fail
        refine (HT.out w2 (a + 1) _ R2 ha1 5).mono ?_
        intro e w5 h3
        rw [t3] at h3
        obtain ⟨rfl, R5⟩ := h3
        go_wp2_with fail
        refine (HT.out w5 (a + 1) _ R5 ha1 3).mono ?_
        intro e w6 h3
        rw [t4] at h3
        obtain ⟨bw6, ow6, cw6, hcw6, rfl, ⟨hbw6, hTw6⟩, R6⟩ := h3
        go_wp2_with fail
        go_ret
        rw [HV.out]
        exact ⟨rfl, ha4, R6⟩
    · rw [t3] at hV
      have ha3 := tk_le (k := 1) t3 rfl (by omega) HPL.out
      cases t4 : tk P ((a + 1) + 1) [3]
      · rw [t4] at hV
        have HV := Lib.hid (show V = ⟨true, ((a + 1) + 1), Prt.none_⟩ by simpa using hV.symm)
        clear hV
        go_enter Try.func33, Try.ntmps33
        go_wp2_with fail
        refine (HT.out w a _ R ha 5).mono ?_
        intro e w1 h3
        rw [t1] at h3
        obtain ⟨bw1, ow1, cw1, hcw1, rfl, ⟨hbw1, hTw1⟩, R1⟩ := h3
        go_wp2_with fail
        refine (HT.out w1 (a + 1) _ R1 ha1 6).mono ?_
        intro e w2 h3
        rw [t2] at h3
        obtain ⟨rfl, R2⟩ := h3
        go_wp2_with fail
        refine (HT.out w2 (a + 1) _ R2 ha1 5).mono ?_
        intro e w5 h3
        rw [t3] at h3
        obtain ⟨bw5, ow5, cw5, hcw5, rfl, ⟨hbw5, hTw5⟩, R5⟩ := h3
        go_wp2_with fail
        refine (HT.out w5 ((a + 1) + 1) _ R5 ha3 3).mono ?_
        intro e w6 h3
        rw [t4] at h3
        obtain ⟨rfl, R6⟩ := h3
        go_wp2_with fail
        go_ret
        rw [HV.out]
        exact ⟨rfl, ha3, R6⟩
      · rw [t4] at hV
        have ha4 := tk_le (k := 1) t4 rfl (by omega) HPL.out
        have HV := Lib.hid (show V = ⟨true, ((a + 1) + 1) + 1, Prt.none_⟩ by simpa using hV.symm)
        clear hV
        go_enter Try.func33, Try.ntmps33
        go_wp2_with fail
        refine (HT.out w a _ R ha 5).mono ?_
        intro e w1 h3
        rw [t1] at h3
        obtain ⟨bw1, ow1, cw1, hcw1, rfl, ⟨hbw1, hTw1⟩, R1⟩ := h3
        go_wp2_with fail
        refine (HT.out w1 (a + 1) _ R1 ha1 6).mono ?_
        intro e w2 h3
        rw [t2] at h3
        obtain ⟨rfl, R2⟩ := h3
        go_wp2_with fail
        refine (HT.out w2 (a + 1) _ R2 ha1 5).mono ?_
        intro e w5 h3
        rw [t3] at h3
        obtain ⟨bw5, ow5, cw5, hcw5, rfl, ⟨hbw5, hTw5⟩, R5⟩ := h3
        go_wp2_with fail
        refine (HT.out w5 ((a + 1) + 1) _ R5 ha3 3).mono ?_
        intro e w6 h3
        rw [t4] at h3
        obtain ⟨bw6, ow6, cw6, hcw6, rfl, ⟨hbw6, hTw6⟩, R6⟩ := h3
        go_wp2_with fail
        go_ret
        rw [HV.out]
        exact ⟨rfl, ha4, R6⟩
  · rw [t2] at hV
    simp only [if_true, Bool.false_eq_true, if_false] at hV
    have haa2 := tk_le (k := 1) t2 rfl (by omega) HPL.out
    cases t3 : tk P (a + 1 + 1) [5]
    · rw [t3] at hV
      cases t4 : tk P (a + 1 + 1) [3]
      · rw [t4] at hV
        have HV := Lib.hid (show V = ⟨false, (a + 1 + 1), nthP P (a + 1)⟩ by simpa using hV.symm)
        clear hV
        go_enter Try.func33, Try.ntmps33
        go_wp2_with fail
        refine (HT.out w a _ R ha 5).mono ?_
        intro e w1 h3
        rw [t1] at h3
        obtain ⟨bw1, ow1, cw1, hcw1, rfl, ⟨hbw1, hTw1⟩, R1⟩ := h3
        go_wp2_with fail
        refine (HT.out w1 (a + 1) _ R1 ha1 6).mono ?_
        intro e w2 h3
        rw [t2] at h3
        obtain ⟨bw2, ow2, cw2, hcw2, rfl, ⟨hbw2, hTw2⟩, R2⟩ := h3
        obtain ⟨p0, p1, p2, _⟩ := hTw2 0 (by omega)
        rw [Nat.add_zero] at p0 p1 p2
        obtain ⟨z, hz⟩ : ∃ z, nthP P (a + 1) = z := ⟨_, rfl⟩
        rw [hz] at p0 p1 p2
        have HZ := Lib.hid hz
        clear hz
        have y0 : w2.cell? ⟨bw2, ow2, none⟩ = some (.int .i64 z.k) := by have h := R2.k.cell p0; simpa using h
        have y1 : w2.cell? ⟨bw2, ow2 + 1, none⟩ = some (.int .i64 z.f) := by have h := R2.k.cell p1; simpa using h
        have y2 : w2.cell? ⟨bw2, ow2 + 2, none⟩ = some (.int .i64 z.t) := by have h := R2.k.cell p2; simpa using h
        have hcx := R2.h.cell
        have z0 : w2.cell? ⟨gh, 9, none⟩ = some (.int .i64 Prt.none_.k) := hcx 9
        have z1 : w2.cell? ⟨gh, 10, none⟩ = some (.int .i64 Prt.none_.f) := hcx 10
        have z2 : w2.cell? ⟨gh, 11, none⟩ = some (.int .i64 Prt.none_.t) := hcx 11
        have zf := R2.h.frozen
        have zl := R2.h.lt
        clear hcx
        go_upto_region 6 with fail
        refine wp_named ?_
        intro w3 hw3
        have R3 : Rx W w3 g gh A n c PA pn pc (a + 1 + 1) (hdA nm pb sy z false) := by
          rw [hw3]
          have RR := ((R2.set 9 (.int .i64 z.k)).set 10 (.int .i64 z.f)).set 11 (.int .i64 z.t)
          exact RR
        clear hw3 y0 y1 y2 z0 z1 z2 zf zl
        go_wp2_with fail
        refine (HT.out w3 (a + 1 + 1) _ R3 haa2 5).mono ?_
        intro e w5 h3
        rw [t3] at h3
        obtain ⟨rfl, R5⟩ := h3
        go_wp2_with fail
        refine (HT.out w5 (a + 1 + 1) _ R5 haa2 3).mono ?_
        intro e w6 h3
        rw [t4] at h3
        obtain ⟨rfl, R6⟩ := h3
        go_wp2_with fail
        go_ret
        rw [HV.out, HZ.out]
        exact ⟨rfl, haa2, R6⟩
      · rw [t4] at hV
        have ha4 := tk_le (k := 1) t4 rfl (by omega) HPL.out
        have HV := Lib.hid (show V = ⟨false, (a + 1 + 1) + 1, nthP P (a + 1)⟩ by simpa using hV.symm)
        clear hV
        go_enter Try.func33, Try.ntmps33
        go_wp2_with fail
        refine (HT.out w a _ R ha 5).mono ?_
        intro e w1 h3
        rw [t1] at h3
        obtain ⟨bw1, ow1, cw1, hcw1, rfl, ⟨hbw1, hTw1⟩, R1⟩ := h3
        go_wp2_with fail
        refine (HT.out w1 (a + 1) _ R1 ha1 6).mono ?_
        intro e w2 h3
        rw [t2] at h3
        obtain ⟨bw2, ow2, cw2, hcw2, rfl, ⟨hbw2, hTw2⟩, R2⟩ := h3
        obtain ⟨p0, p1, p2, _⟩ := hTw2 0 (by omega)
        rw [Nat.add_zero] at p0 p1 p2
        obtain ⟨z, hz⟩ : ∃ z, nthP P (a + 1) = z := ⟨_, rfl⟩
        rw [hz] at p0 p1 p2
        have HZ := Lib.hid hz
        clear hz
        have y0 : w2.cell? ⟨bw2, ow2, none⟩ = some (.int .i64 z.k) := by have h := R2.k.cell p0; simpa using h
        have y1 : w2.cell? ⟨bw2, ow2 + 1, none⟩ = some (.int .i64 z.f) := by have h := R2.k.cell p1; simpa using h
        have y2 : w2.cell? ⟨bw2, ow2 + 2, none⟩ = some (.int .i64 z.t) := by have h := R2.k.cell p2; simpa using h
        have hcx := R2.h.cell
        have z0 : w2.cell? ⟨gh, 9, none⟩ = some (.int .i64 Prt.none_.k) := hcx 9
        have z1 : w2.cell? ⟨gh, 10, none⟩ = some (.int .i64 Prt.none_.f) := hcx 10
        have z2 : w2.cell? ⟨gh, 11, none⟩ = some (.int .i64 Prt.none_.t) := hcx 11
        have zf := R2.h.frozen
        have zl := R2.h.lt
        clear hcx
        go_upto_region 6 with fail
        refine wp_named ?_
        intro w3 hw3
        have R3 : Rx W w3 g gh A n c PA pn pc (a + 1 + 1) (hdA nm pb sy z false) := by
          rw [hw3]
          have RR := ((R2.set 9 (.int .i64 z.k)).set 10 (.int .i64 z.f)).set 11 (.int .i64 z.t)
          exact RR
        clear hw3 y0 y1 y2 z0 z1 z2 zf zl
        go_wp2_with fail
        refine (HT.out w3 (a + 1 + 1) _ R3 haa2 5).mono ?_
        intro e w5 h3
        rw [t3] at h3
        obtain ⟨rfl, R5⟩ := h3
        go_wp2_with fail
        refine (HT.out w5 (a + 1 + 1) _ R5 haa2 3).mono ?_
        intro e w6 h3
        rw [t4] at h3
        obtain ⟨bw6, ow6, cw6, hcw6, rfl, ⟨hbw6, hTw6⟩, R6⟩ := h3
        go_wp2_with fail
        go_ret
        rw [HV.out, HZ.out]
        exact ⟨rfl, ha4, R6⟩
    · rw [t3] at hV
      have ha3 := tk_le (k := 1) t3 rfl (by omega) HPL.out
      cases t4 : tk P ((a + 1 + 1) + 1) [3]
      · rw [t4] at hV
        have HV := Lib.hid (show V = ⟨true, ((a + 1 + 1) + 1), nthP P (a + 1)⟩ by simpa using hV.symm)
        clear hV
        go_enter Try.func33, Try.ntmps33
        go_wp2_with fail
        refine (HT.out w a _ R ha 5).mono ?_
        intro e w1 h3
        rw [t1] at h3
        obtain ⟨bw1, ow1, cw1, hcw1, rfl, ⟨hbw1, hTw1⟩, R1⟩ := h3
        go_wp2_with fail
        refine (HT.out w1 (a + 1) _ R1 ha1 6).mono ?_
        intro e w2 h3
        rw [t2] at h3
        obtain ⟨bw2, ow2, cw2, hcw2, rfl, ⟨hbw2, hTw2⟩, R2⟩ := h3
        obtain ⟨p0, p1, p2, _⟩ := hTw2 0 (by omega)
        rw [Nat.add_zero] at p0 p1 p2
        obtain ⟨z, hz⟩ : ∃ z, nthP P (a + 1) = z := ⟨_, rfl⟩
        rw [hz] at p0 p1 p2
        have HZ := Lib.hid hz
        clear hz
        have y0 : w2.cell? ⟨bw2, ow2, none⟩ = some (.int .i64 z.k) := by have h := R2.k.cell p0; simpa using h
        have y1 : w2.cell? ⟨bw2, ow2 + 1, none⟩ = some (.int .i64 z.f) := by have h := R2.k.cell p1; simpa using h
        have y2 : w2.cell? ⟨bw2, ow2 + 2, none⟩ = some (.int .i64 z.t) := by have h := R2.k.cell p2; simpa using h
        have hcx := R2.h.cell
        have z0 : w2.cell? ⟨gh, 9, none⟩ = some (.int .i64 Prt.none_.k) := hcx 9
        have z1 : w2.cell? ⟨gh, 10, none⟩ = some (.int .i64 Prt.none_.f) := hcx 10
        have z2 : w2.cell? ⟨gh, 11, none⟩ = some (.int .i64 Prt.none_.t) := hcx 11
        have zf := R2.h.frozen
        have zl := R2.h.lt
        clear hcx
        go_upto_region 6 with fail
        refine wp_named ?_
        intro w3 hw3
        have R3 : Rx W w3 g gh A n c PA pn pc (a + 1 + 1) (hdA nm pb sy z false) := by
          rw [hw3]
          have RR := ((R2.set 9 (.int .i64 z.k)).set 10 (.int .i64 z.f)).set 11 (.int .i64 z.t)
          exact RR
        clear hw3 y0 y1 y2 z0 z1 z2 zf zl
        go_wp2_with fail
        refine (HT.out w3 (a + 1 + 1) _ R3 haa2 5).mono ?_
        intro e w5 h3
        rw [t3] at h3
        obtain ⟨bw5, ow5, cw5, hcw5, rfl, ⟨hbw5, hTw5⟩, R5⟩ := h3
        go_wp2_with fail
        refine (HT.out w5 ((a + 1 + 1) + 1) _ R5 ha3 3).mono ?_
        intro e w6 h3
        rw [t4] at h3
        obtain ⟨rfl, R6⟩ := h3
        go_wp2_with fail
        go_ret
        rw [HV.out, HZ.out]
        exact ⟨rfl, ha3, R6⟩
      · rw [t4] at hV
        have ha4 := tk_le (k := 1) t4 rfl (by omega) HPL.out
        have HV := Lib.hid (show V = ⟨true, ((a + 1 + 1) + 1) + 1, nthP P (a + 1)⟩ by simpa using hV.symm)
        clear hV
        go_enter Try.func33, Try.ntmps33
        go_wp2_with fail
        refine (HT.out w a _ R ha 5).mono ?_
        intro e w1 h3
        rw [t1] at h3
        obtain ⟨bw1, ow1, cw1, hcw1, rfl, ⟨hbw1, hTw1⟩, R1⟩ := h3
        go_wp2_with fail
        refine (HT.out w1 (a + 1) _ R1 ha1 6).mono ?_
        intro e w2 h3
        rw [t2] at h3
        obtain ⟨bw2, ow2, cw2, hcw2, rfl, ⟨hbw2, hTw2⟩, R2⟩ := h3
        obtain ⟨p0, p1, p2, _⟩ := hTw2 0 (by omega)
        rw [Nat.add_zero] at p0 p1 p2
        obtain ⟨z, hz⟩ : ∃ z, nthP P (a + 1) = z := ⟨_, rfl⟩
        rw [hz] at p0 p1 p2
        have HZ := Lib.hid hz
        clear hz
        have y0 : w2.cell? ⟨bw2, ow2, none⟩ = some (.int .i64 z.k) := by have h := R2.k.cell p0; simpa using h
        have y1 : w2.cell? ⟨bw2, ow2 + 1, none⟩ = some (.int .i64 z.f) := by have h := R2.k.cell p1; simpa using h
        have y2 : w2.cell? ⟨bw2, ow2 + 2, none⟩ = some (.int .i64 z.t) := by have h := R2.k.cell p2; simpa using h
        have hcx := R2.h.cell
        have z0 : w2.cell? ⟨gh, 9, none⟩ = some (.int .i64 Prt.none_.k) := hcx 9
        have z1 : w2.cell? ⟨gh, 10, none⟩ = some (.int .i64 Prt.none_.f) := hcx 10
        have z2 : w2.cell? ⟨gh, 11, none⟩ = some (.int .i64 Prt.none_.t) := hcx 11
        have zf := R2.h.frozen
        have zl := R2.h.lt
        clear hcx
        go_upto_region 6 with fail
        refine wp_named ?_
        intro w3 hw3
        have R3 : Rx W w3 g gh A n c PA pn pc (a + 1 + 1) (hdA nm pb sy z false) := by
          rw [hw3]
          have RR := ((R2.set 9 (.int .i64 z.k)).set 10 (.int .i64 z.f)).set 11 (.int .i64 z.t)
          exact RR
        clear hw3 y0 y1 y2 z0 z1 z2 zf zl
        go_wp2_with fail
        refine (HT.out w3 (a + 1 + 1) _ R3 haa2 5).mono ?_
        intro e w5 h3
        rw [t3] at h3
        obtain ⟨bw5, ow5, cw5, hcw5, rfl, ⟨hbw5, hTw5⟩, R5⟩ := h3
        go_wp2_with fail
        refine (HT.out w5 ((a + 1 + 1) + 1) _ R5 ha3 3).mono ?_
        intro e w6 h3
        rw [t4] at h3
        obtain ⟨bw6, ow6, cw6, hcw6, rfl, ⟨hbw6, hTw6⟩, R6⟩ := h3
        go_wp2_with fail
        go_ret
        rw [HV.out, HZ.out]
        exact ⟨rfl, ha4, R6⟩
end Go.Proofs.Ytnfcfpcpfnhcnaa
