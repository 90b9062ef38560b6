/- Layer 9: the reader's outside, inside: walked. -/
import Derived.Test.YtnfcfpcpfnhcnaaDtdF
namespace Go.Proofs.Ytnfcfpcpfnhcnaa
open Go.RowKit
attribute [local go_sem ↓] Go.wp_at_zero Go.wp_at_succ

def nthP (P : List Prt) (k : Nat) : Prt := P.getD k Prt.none_
@[reducible] def hdA (nm pb sy sb : Prt) (rt : Bool) : Array Value :=
  #[.int .i64 nm.k, .int .i64 nm.f, .int .i64 nm.t, .int .i64 pb.k, .int .i64 pb.f, .int .i64 pb.t, .int .i64 sy.k, .int .i64 sy.f, .int .i64 sy.t, .int .i64 sb.k, .int .i64 sb.f, .int .i64 sb.t, .bool rt]
/-- A reader and a head that a call has made; all that was there when it had made the parts (W) is kept. -/
structure Rx (W w : World) (g gh : Nat) (A : Option Addr) (n c : Nat) (PA : Option Addr) (pn pc a : Nat) (hs : Array Value) : Prop where
  k : Kept W w
  b : Blk w g (rdr A n c PA pn pc a) 52
  h : Blk w gh hs 34
  lg : W.heap.size ≤ g
  lh : W.heap.size ≤ gh
  ne : g ≠ gh
section
variable {W w w' : World} {g gh n c pn pc a : Nat} {A PA : Option Addr} {hs : Array Value}
theorem Rx.kept (R : Rx W w g gh A n c PA pn pc a hs) (kk : Kept w w') : Rx W w' g gh A n c PA pn pc a hs := ⟨R.k.trans kk, R.b.kept kk, R.h.kept kk, R.lg, R.lh, R.ne⟩
theorem Rx.set (R : Rx W w g gh A n c PA pn pc a hs) (i : Nat) (u : Value) : Rx W (w.setCell ⟨gh, i, none⟩ u) g gh A n c PA pn pc a (hs.setIfInBounds i u) :=
  ⟨R.k.setCell (p := ⟨gh, i, none⟩) R.lh u, R.b.far (p := ⟨gh, i, none⟩) R.ne u, R.h.set i u, R.lg, R.lh, R.ne⟩
theorem Rx.drew (R : Rx W w g gh A n c PA pn pc a hs) : Rx W w.drew g gh A n c PA pn pc a hs := R.kept (Kept.refl w).drew
theorem Rx.of {hs' : Array Value} (R : Rx W w g gh A n c PA pn pc a hs) (e : hs = hs') : Rx W w g gh A n c PA pn pc a hs' := e ▸ R
theorem nth_at {P : List Prt} {k : Nat} {p : Prt} (h : P[k]? = some p) : nthP P k = p := by
  unfold nthP
  rw [List.getD_eq_getElem?_getD, h]
  rfl
/-- The cells of the parts that were taken. -/
def TkC (W : World) (P : List Prt) (a kn b o : Nat) : Prop := b < W.heap.size ∧ ∀ i, i < kn → W.cell? ⟨b, o + i * 3, none⟩ = some (.int .i64 (nthP P (a + i)).k) ∧ W.cell? ⟨b, o + i * 3 + 1, none⟩ = some (.int .i64 (nthP P (a + i)).f) ∧ W.cell? ⟨b, o + i * 3 + 2, none⟩ = some (.int .i64 (nthP P (a + i)).t) ∧ nthP P (a + i) ∈ P
def TkOf (t : Bool) (W : World) (P : List Prt) (g gh : Nat) (A : Option Addr) (n c : Nat) (PA : Option Addr) (pn pc a kn : Nat) (hs : Array Value) (e : Ending) (w' : World) : Prop :=
  match t with
  | true => ∃ b o cc, kn ≤ cc ∧ e = .returned (.slice (some ⟨b, o, none⟩) kn cc) ∧ TkC W P a kn b o ∧ Rx W w' g gh A n c PA pn pc (a + kn) hs
  | false => e = .returned (.slice none 0 0) ∧ Rx W w' g gh A n c PA pn pc a hs
theorem takes_rx {P : List Prt} (R : Rx W w g gh A n c PA pn pc a hs) (hP : Sl W 3 PA pn pc (P.flatMap prtC)) (ha : a ≤ pn) (hpn : pn ≤ 1000000) (ks : List Int) (kn : Nat) (hk : ks.length = kn) (hk0 : 0 < kn) (hk1 : kn ≤ 100) (KA : Option Addr) (kc : Nat) (hK : Sl w 1 KA kn kc (ks.map (Value.int .i64))) :
    Calls Try.prog 31 #[.pointer (some ⟨g, 0, none⟩), .slice KA kn kc] w fun e w' => TkOf (tk P a ks) W P g gh A n c PA pn pc a kn hs e w' := by
  refine (takes_any A n c PA pn pc P a g KA kn kc ks w R.b (hP.kept R.k) ha hpn hK hk1 hk0).mono ?_
  rintro e w' ⟨h1, hgr⟩
  have hb : ∀ q, some g = some q → W.heap.size ≤ q := fun q e => by
    injection e with e
    exact e ▸ R.lg
  cases ht : tk P a ks
  · rw [ht] at h1
    obtain ⟨rfl, hB⟩ := h1
    exact ⟨rfl, R.k.grown hgr hb, hB, R.h.grown hgr (fun e => by injection e with e; exact R.ne e.symm), R.lg, R.lh, R.ne⟩
  · rw [ht] at h1
    obtain ⟨rfl, hB⟩ := h1
    have hPl := hP.llen prtC_len (by omega)
    have hle : a + kn ≤ pn := by
      rcases tk_len ht with h2 | h2
      · omega
      · rw [h2] at hk
        simp at hk
        omega
    have hcap := hP.cap
    have hsl := hP.cutf prtC_len (i := a) (m := a + kn) (by omega) (by omega)
    rw [show a + kn - a = kn by omega] at hsl
    obtain ⟨b, o, hA, hc⟩ := hsl.at_ hk0
    rw [hA]
    refine ⟨b, o, pc - a, by omega, rfl, ⟨?_, fun i hi => ?_⟩, R.k.grown hgr hb, hB, R.h.grown hgr (fun e => by injection e with e; exact R.ne e.symm), R.lg, R.lh, R.ne⟩
    · rw [hA] at hsl
      exact hsl.lt (by omega) hk0 b o rfl
    · rw [hA] at hsl
      obtain ⟨b', o', p, hA', hp, hpc, _⟩ := hsl.elemb prtC_len (by omega) hi
      injection hA' with hA'
      injection hA' with e1 e2
      subst e1 e2
      have hp2 : P[a + i]? = some p := by
        rw [List.getElem?_take, if_pos hi, List.getElem?_drop] at hp
        exact hp
      rw [nth_at hp2]
      exact ⟨hpc 0 _ rfl, hpc 1 _ rfl, hpc 2 _ rfl, List.mem_of_getElem? hp2⟩
end
theorem wp_named {P : Program} {c : Code} {Q : Exit → Act → World → Prop} {a : Act} {w : World} (h : ∀ w', w' = w → Code.wp P c Q a w') : Code.wp P c Q a w := h w rfl
theorem cellD {w : World} {b o : Nat} {v : Value} (h : w.cell? ⟨b, o, none⟩ = some v) : w.drew.cell? ⟨b, o, none⟩ = some v := h
theorem cellH {w : World} {b o g i : Nat} {u v : Value} (h : w.cell? ⟨b, o, none⟩ = some v) (hne : b ≠ g) : (w.setCell ⟨g, i, none⟩ u).cell? ⟨b, o, none⟩ = some v :=
  (World.cell?_setCell_far w ⟨g, i, none⟩ ⟨b, o, none⟩ u (fun e => hne e.symm)).trans h
/-- Parts lie within the runes; what is in quotes has both. -/
def PartsOk (n : Nat) (P : List Prt) : Prop := ∀ p ∈ P, 0 ≤ p.f ∧ p.f < p.t ∧ p.t ≤ n ∧ (p.k = 4 → p.f + 2 ≤ p.t)
structure OutR where
  ok : Bool
  a : Nat
  pb : Prt
  sy : Prt
def bSYS : ByteArray := ⟨#[83, 89, 83, 84, 69, 77]⟩
def bPUB : ByteArray := ⟨#[80, 85, 66, 76, 73, 67]⟩
def pubOK (l : List Int) (p : Prt) : Bool := ((l.drop (p.f + 1).toNat).take ((p.t - 1).toNat - (p.f + 1).toNat)).all isPubid
def outD (l : List Int) (P : List Prt) (a : Nat) : OutR :=
  if tk P a [3, 2] then
    (if isW l (nthP P (a + 1)) bSYS then (if tk P (a + 2) [3, 4] then ⟨true, a + 4, Prt.none_, nthP P (a + 3)⟩ else ⟨false, 0, Prt.none_, Prt.none_⟩)
    else if isW l (nthP P (a + 1)) bPUB then (if tk P (a + 2) [3, 4, 3, 4] then ⟨pubOK l (nthP P (a + 3)), a + 6, nthP P (a + 3), nthP P (a + 5)⟩ else ⟨false, 0, Prt.none_, Prt.none_⟩)
    else ⟨false, 0, Prt.none_, Prt.none_⟩)
  else ⟨true, a, Prt.none_, Prt.none_⟩
def OutOf (r : OutR) (W : World) (g gh : Nat) (A : Option Addr) (n c : Nat) (PA : Option Addr) (pn pc : Nat) (e : Ending) (w' : World) : Prop :=
  e = .returned (.bool r.ok) ∧ Kept W w' ∧ (r.ok = true → Rx W w' g gh A n c PA pn pc r.a (hdA Prt.none_ r.pb r.sy Prt.none_ false))
set_option maxHeartbeats 8000000 in
theorem outside_any {W w : World} {g gh n c pn pc a : Nat} {A PA : Option Addr} {l : List Int} {P : List Prt} (R : Rx W w g gh A n c PA pn pc a (hdA Prt.none_ Prt.none_ Prt.none_ Prt.none_ false)) (hl : Sl W 1 A n c (l.map (Value.int .i32))) (hn : n ≤ 1000000)
    (hP : Sl W 3 PA pn pc (P.flatMap prtC)) (hpn : pn ≤ 1000000) (ha : a ≤ pn) (hok : PartsOk n P) :
    Calls Try.prog 32 #[.pointer (some ⟨g, 0, none⟩), .pointer (some ⟨gh, 0, none⟩)] w fun e w' => OutOf (outD l P a) W g gh A n c PA pn pc e w' := by
  have n1 := prt_nil_eq
  have n2 := prt_some_eq
  have n3 := prt_nil_ne
  have n4 := prt_some_ne
  have HT1 := Lib.hid (takes_rx (R.kept ((Kept.refl w).alloc (.cells #[.int .i64 3, .int .i64 2] 3))) hP ha hpn [3, 2] 2 rfl (by omega) (by omega) (some ⟨w.heap.size, 0, none⟩) 2 (Sl.lit rfl (by omega)))
  have HOK := Lib.hid hok
  have hPl := hP.llen prtC_len (by omega)
  clear hok R
  obtain ⟨V, hV⟩ : ∃ V, outD l P a = V := ⟨_, rfl⟩
  rw [hV]
  unfold outD at hV
  cases t1 : tk P a [3, 2]
  · rw [t1] at hV HT1
    have HV := Lib.hid (show V = ⟨true, a, Prt.none_, Prt.none_⟩ by simpa using hV.symm)
    clear hV
    go_enter Try.func32, Try.ntmps32
    go_wp2_with fail
    refine HT1.out.mono ?_
    rintro e w1 ⟨rfl, R1⟩
    go_wp2_with fail
    go_ret
    rw [HV.out]
    exact ⟨rfl, R1.k, fun _ => R1⟩
  have ha2 : a + 2 ≤ pn := by
    rcases tk_len t1 with h1 | h1
    · simp at h1
      omega
    · cases h1
  rw [t1] at HT1 hV
  simp only [if_true] at hV
  have HT1' : Hid (Calls Try.prog 31 #[.pointer (some ⟨g, 0, none⟩), .slice (some ⟨w.heap.size, 0, none⟩) 2 2] (w.alloc (.cells #[.int .i64 3, .int .i64 2] 3)) fun e w' => ∃ b o cc, 2 ≤ cc ∧ e = .returned (.slice (some ⟨b, o, none⟩) 2 cc) ∧ TkC W P a 2 b o ∧ Rx W w' g gh A n c PA pn pc (a + 2) (hdA Prt.none_ Prt.none_ Prt.none_ Prt.none_ false)) := HT1.out
  clear HT1 t1 hPl
  obtain ⟨q, hq⟩ : ∃ q, nthP P (a + 1) = q := ⟨_, rfl⟩
  rw [hq] at hV
  have HQ := Lib.hid hq
  clear hq
  cases s1 : isW l q bSYS
  rotate_left
  · rw [s1, if_pos rfl] at hV
    cases t2 : tk P (a + 2) [3, 4]
    · rw [t2] at hV
      have HV := Lib.hid (show V = ⟨false, 0, Prt.none_, Prt.none_⟩ by simpa using hV.symm)
      clear hV
      go_enter Try.func32, Try.ntmps32
      go_wp2_with fail
      refine HT1'.out.mono ?_
      rintro e w1 ⟨b, o, cc, hcc, rfl, ⟨hb, hTC⟩, R1⟩
      obtain ⟨p0, p1, p2, hqm⟩ := hTC 1 (by omega)
      rw [HQ.out] at p0 p1 p2 hqm
      obtain ⟨v0, v1, v2, _⟩ := HOK.out q hqm
      have x0 : w1.cell? ⟨b, o + 3, none⟩ = some (.int .i64 q.k) := R1.k.cell p0
      have x1 : w1.cell? ⟨b, o + 4, none⟩ = some (.int .i64 q.f) := R1.k.cell p1
      have x2 : w1.cell? ⟨b, o + 5, none⟩ = some (.int .i64 q.t) := R1.k.cell p2
      have DI := Lib.hid (dis_any A n c l PA pn pc (a + 2) g q bSYS w1 R1.b (hl.kept R1.k) hn v0 (by omega) (by omega) (by omega) (by decide) (by decide) (by decide))
      clear hqm v0 v1 v2
      go_wp2_with fail
      refine DI.out.mono ?_
      rintro e w2 ⟨rfl, k2⟩
      have R2 := R1.kept k2
      clear x0 x1 x2
      rw [s1]
      go_wp2_with fail
      refine (takes_rx (R2.kept ((Kept.refl w2).alloc (.cells #[.int .i64 3, .int .i64 4] 3))) hP ha2 hpn [3, 4] 2 rfl (by omega) (by omega) (some ⟨w2.heap.size, 0, none⟩) 2 (Sl.lit rfl (by omega))).mono ?_
      intro e w3 h3
      rw [t2] at h3
      obtain ⟨rfl, R3⟩ := h3
      go_wp2_with fail
      go_ret
      rw [HV.out]
      exact ⟨rfl, R3.k, fun h => by cases h⟩
    · rw [t2] at hV
      have HV := Lib.hid (show V = ⟨true, a + 4, Prt.none_, nthP P (a + 3)⟩ by simpa using hV.symm)
      clear hV
      go_enter Try.func32, Try.ntmps32
      go_wp2_with fail
      refine HT1'.out.mono ?_
      rintro e w1 ⟨b, o, cc, hcc, rfl, ⟨hb, hTC⟩, R1⟩
      obtain ⟨p0, p1, p2, hqm⟩ := hTC 1 (by omega)
      rw [HQ.out] at p0 p1 p2 hqm
      obtain ⟨v0, v1, v2, _⟩ := HOK.out q hqm
      have x0 : w1.cell? ⟨b, o + 3, none⟩ = some (.int .i64 q.k) := R1.k.cell p0
      have x1 : w1.cell? ⟨b, o + 4, none⟩ = some (.int .i64 q.f) := R1.k.cell p1
      have x2 : w1.cell? ⟨b, o + 5, none⟩ = some (.int .i64 q.t) := R1.k.cell p2
      have DI := Lib.hid (dis_any A n c l PA pn pc (a + 2) g q bSYS w1 R1.b (hl.kept R1.k) hn v0 (by omega) (by omega) (by omega) (by decide) (by decide) (by decide))
      clear hqm v0 v1 v2
      go_wp2_with fail
      refine DI.out.mono ?_
      rintro e w2 ⟨rfl, k2⟩
      have R2 := R1.kept k2
      clear x0 x1 x2
      rw [s1]
      go_wp2_with fail
      refine (takes_rx (R2.kept ((Kept.refl w2).alloc (.cells #[.int .i64 3, .int .i64 4] 3))) hP ha2 hpn [3, 4] 2 rfl (by omega) (by omega) (some ⟨w2.heap.size, 0, none⟩) 2 (Sl.lit rfl (by omega))).mono ?_
      intro e w3 h3
      rw [t2] at h3
      obtain ⟨b3, o3, cc3, hcc3, rfl, ⟨hb3, hT3⟩, R3⟩ := h3
      obtain ⟨p0, p1, p2, _⟩ := hT3 1 (by omega)
      rw [show a + 2 + 1 = a + 3 from rfl] at p0 p1 p2
      obtain ⟨r, hr⟩ : ∃ r, nthP P (a + 3) = r := ⟨_, rfl⟩
      rw [hr] at p0 p1 p2
      have HR := Lib.hid hr
      clear hr
      have y0 : w3.cell? ⟨b3, o3 + 3, none⟩ = some (.int .i64 r.k) := R3.k.cell p0
      have y1 : w3.cell? ⟨b3, o3 + 4, none⟩ = some (.int .i64 r.f) := R3.k.cell p1
      have y2 : w3.cell? ⟨b3, o3 + 5, none⟩ = some (.int .i64 r.t) := R3.k.cell p2
      have hcx := R3.h.cell
      have z6 : w3.cell? ⟨gh, 6, none⟩ = some (.int .i64 Prt.none_.k) := hcx 6
      have z7 : w3.cell? ⟨gh, 7, none⟩ = some (.int .i64 Prt.none_.f) := hcx 7
      have z8 : w3.cell? ⟨gh, 8, none⟩ = some (.int .i64 Prt.none_.t) := hcx 8
      have zf := R3.h.frozen
      have zl := R3.h.lt
      clear hcx
      go_wp2_with fail
      go_ret
      rw [HV.out, HR.out]
      have RR := ((R3.set 6 (.int .i64 r.k)).set 7 (.int .i64 r.f)).set 8 (.int .i64 r.t)
      exact ⟨rfl, RR.k, fun _ => RR⟩
  rw [s1, if_neg (by simp)] at hV
  cases s2 : isW l q bPUB
  · rw [s2, if_neg (by simp)] at hV
    have HV := Lib.hid hV.symm
    clear hV
    go_enter Try.func32, Try.ntmps32
    go_wp2_with fail
    refine HT1'.out.mono ?_
    rintro e w1 ⟨b, o, cc, hcc, rfl, ⟨hb, hTC⟩, R1⟩
    obtain ⟨p0, p1, p2, hqm⟩ := hTC 1 (by omega)
    rw [HQ.out] at p0 p1 p2 hqm
    obtain ⟨v0, v1, v2, _⟩ := HOK.out q hqm
    have x0 : w1.cell? ⟨b, o + 3, none⟩ = some (.int .i64 q.k) := R1.k.cell p0
    have x1 : w1.cell? ⟨b, o + 4, none⟩ = some (.int .i64 q.f) := R1.k.cell p1
    have x2 : w1.cell? ⟨b, o + 5, none⟩ = some (.int .i64 q.t) := R1.k.cell p2
    have DI := Lib.hid (fun w' (R' : Rx W w' g gh A n c PA pn pc (a + 2) (hdA Prt.none_ Prt.none_ Prt.none_ Prt.none_ false)) => dis_any A n c l PA pn pc (a + 2) g q bSYS w' R'.b (hl.kept R'.k) hn v0 (by omega) (by omega) (by omega) (by decide) (by decide) (by decide))
    have DJ := Lib.hid (fun w' (R' : Rx W w' g gh A n c PA pn pc (a + 2) (hdA Prt.none_ Prt.none_ Prt.none_ Prt.none_ false)) => dis_any A n c l PA pn pc (a + 2) g q bPUB w' R'.b (hl.kept R'.k) hn v0 (by omega) (by omega) (by omega) (by decide) (by decide) (by decide))
    clear hqm v0 v1 v2
    go_wp2_with fail
    refine (DI.out _ R1).mono ?_
    rintro e w2 ⟨rfl, k2⟩
    have R2 := R1.kept k2
    clear x0 x1 x2
    have x0 : w2.cell? ⟨b, o + 3, none⟩ = some (.int .i64 q.k) := R2.k.cell p0
    have x1 : w2.cell? ⟨b, o + 4, none⟩ = some (.int .i64 q.f) := R2.k.cell p1
    have x2 : w2.cell? ⟨b, o + 5, none⟩ = some (.int .i64 q.t) := R2.k.cell p2
    rw [s1]
    go_wp2_with fail
    refine (DJ.out _ R2).mono ?_
    rintro e w3 ⟨rfl, k3⟩
    have R3 := R2.kept k3
    clear x0 x1 x2
    rw [s2]
    go_wp2_with fail
    go_ret
    rw [HV.out]
    exact ⟨rfl, R3.k, fun h => by cases h⟩
  rw [s2, if_pos rfl] at hV
  cases t4 : tk P (a + 2) [3, 4, 3, 4]
  · rw [t4] at hV
    have HV := Lib.hid (show V = ⟨false, 0, Prt.none_, Prt.none_⟩ by simpa using hV.symm)
    clear hV
    go_enter Try.func32, Try.ntmps32
    go_wp2_with fail
    refine HT1'.out.mono ?_
    rintro e w1 ⟨b, o, cc, hcc, rfl, ⟨hb, hTC⟩, R1⟩
    obtain ⟨p0, p1, p2, hqm⟩ := hTC 1 (by omega)
    rw [HQ.out] at p0 p1 p2 hqm
    obtain ⟨v0, v1, v2, _⟩ := HOK.out q hqm
    have x0 : w1.cell? ⟨b, o + 3, none⟩ = some (.int .i64 q.k) := R1.k.cell p0
    have x1 : w1.cell? ⟨b, o + 4, none⟩ = some (.int .i64 q.f) := R1.k.cell p1
    have x2 : w1.cell? ⟨b, o + 5, none⟩ = some (.int .i64 q.t) := R1.k.cell p2
    have DI := Lib.hid (fun w' (R' : Rx W w' g gh A n c PA pn pc (a + 2) (hdA Prt.none_ Prt.none_ Prt.none_ Prt.none_ false)) => dis_any A n c l PA pn pc (a + 2) g q bSYS w' R'.b (hl.kept R'.k) hn v0 (by omega) (by omega) (by omega) (by decide) (by decide) (by decide))
    have DJ := Lib.hid (fun w' (R' : Rx W w' g gh A n c PA pn pc (a + 2) (hdA Prt.none_ Prt.none_ Prt.none_ Prt.none_ false)) => dis_any A n c l PA pn pc (a + 2) g q bPUB w' R'.b (hl.kept R'.k) hn v0 (by omega) (by omega) (by omega) (by decide) (by decide) (by decide))
    clear hqm v0 v1 v2
    go_wp2_with fail
    refine (DI.out _ R1).mono ?_
    rintro e w2 ⟨rfl, k2⟩
    have R2 := R1.kept k2
    clear x0 x1 x2
    have x0 : w2.cell? ⟨b, o + 3, none⟩ = some (.int .i64 q.k) := R2.k.cell p0
    have x1 : w2.cell? ⟨b, o + 4, none⟩ = some (.int .i64 q.f) := R2.k.cell p1
    have x2 : w2.cell? ⟨b, o + 5, none⟩ = some (.int .i64 q.t) := R2.k.cell p2
    rw [s1]
    go_wp2_with fail
    refine (DJ.out _ R2).mono ?_
    rintro e w3 ⟨rfl, k3⟩
    have R3 := R2.kept k3
    clear x0 x1 x2
    rw [s2]
    go_wp2_with fail
    refine (takes_rx (R3.kept ((Kept.refl w3).alloc (.cells #[.int .i64 3, .int .i64 4, .int .i64 3, .int .i64 4] 3))) hP ha2 hpn [3, 4, 3, 4] 4 rfl (by omega) (by omega) (some ⟨w3.heap.size, 0, none⟩) 4 (Sl.lit rfl (by omega))).mono ?_
    intro e w4 h4
    rw [t4] at h4
    obtain ⟨rfl, R4⟩ := h4
    go_wp2_with fail
    first | go_region | fail
    all_goals
      go_wp2_with fail
      go_ret
      rw [HV.out]
      exact ⟨rfl, R4.k.drew, fun h => by cases h⟩
  · rw [t4, if_pos rfl] at hV
    have HV := Lib.hid hV.symm
    clear hV
    go_enter Try.func32, Try.ntmps32
    go_wp2_with fail
    refine HT1'.out.mono ?_
    rintro e w1 ⟨b, o, cc, hcc, rfl, ⟨hb, hTC⟩, R1⟩
    obtain ⟨p0, p1, p2, hqm⟩ := hTC 1 (by omega)
    rw [HQ.out] at p0 p1 p2 hqm
    obtain ⟨v0, v1, v2, _⟩ := HOK.out q hqm
    have x0 : w1.cell? ⟨b, o + 3, none⟩ = some (.int .i64 q.k) := R1.k.cell p0
    have x1 : w1.cell? ⟨b, o + 4, none⟩ = some (.int .i64 q.f) := R1.k.cell p1
    have x2 : w1.cell? ⟨b, o + 5, none⟩ = some (.int .i64 q.t) := R1.k.cell p2
    have DI := Lib.hid (fun w' (R' : Rx W w' g gh A n c PA pn pc (a + 2) (hdA Prt.none_ Prt.none_ Prt.none_ Prt.none_ false)) => dis_any A n c l PA pn pc (a + 2) g q bSYS w' R'.b (hl.kept R'.k) hn v0 (by omega) (by omega) (by omega) (by decide) (by decide) (by decide))
    have DJ := Lib.hid (fun w' (R' : Rx W w' g gh A n c PA pn pc (a + 2) (hdA Prt.none_ Prt.none_ Prt.none_ Prt.none_ false)) => dis_any A n c l PA pn pc (a + 2) g q bPUB w' R'.b (hl.kept R'.k) hn v0 (by omega) (by omega) (by omega) (by decide) (by decide) (by decide))
    clear hqm v0 v1 v2
    go_wp2_with fail
    refine (DI.out _ R1).mono ?_
    rintro e w2 ⟨rfl, k2⟩
    have R2 := R1.kept k2
    clear x0 x1 x2
    have x0 : w2.cell? ⟨b, o + 3, none⟩ = some (.int .i64 q.k) := R2.k.cell p0
    have x1 : w2.cell? ⟨b, o + 4, none⟩ = some (.int .i64 q.f) := R2.k.cell p1
    have x2 : w2.cell? ⟨b, o + 5, none⟩ = some (.int .i64 q.t) := R2.k.cell p2
    rw [s1]
    go_wp2_with fail
    refine (DJ.out _ R2).mono ?_
    rintro e w3 ⟨rfl, k3⟩
    have R3 := R2.kept k3
    clear x0 x1 x2
    rw [s2]
    go_wp2_with fail
    refine (takes_rx (R3.kept ((Kept.refl w3).alloc (.cells #[.int .i64 3, .int .i64 4, .int .i64 3, .int .i64 4] 3))) hP ha2 hpn [3, 4, 3, 4] 4 rfl (by omega) (by omega) (some ⟨w3.heap.size, 0, none⟩) 4 (Sl.lit rfl (by omega))).mono ?_
    intro e w4 h4
    rw [t4] at h4
    obtain ⟨b4, o4, cc4, hcc4, rfl, ⟨hb4, hT4⟩, R4⟩ := h4
    obtain ⟨p0', p1', p2', hm1⟩ := hT4 1 (by omega)
    obtain ⟨p6', p7', p8', _⟩ := hT4 3 (by omega)
    obtain ⟨v0, v1, v2, v3⟩ := HOK.out _ hm1
    rw [show a + 2 + 1 = a + 3 from rfl] at p0' p1' p2' v0 v1 v2 v3
    rw [show a + 2 + 3 = a + 5 from rfl] at p6' p7' p8'
    have hk4 : (nthP P (a + 3)).k = 4 := by
      have h1 := of_decide_eq_true (show decide (((P.drop (a + 2)).take 4).map Prt.k = [3, 4, 3, 4]) = true from t4)
      have h2 := congrArg (fun l => l[1]?) h1
      simp only [List.getElem?_map, List.getElem?_take, List.getElem?_drop] at h2
      cases h3 : P[a + 2 + 1]? with
      | none => rw [h3] at h2; simp at h2
      | some z =>
        rw [h3] at h2
        simp at h2
        rw [nth_at (show P[a + 3]? = some z from h3)]
        exact h2
    have v4 := v3 hk4
    obtain ⟨r, hr⟩ : ∃ r, nthP P (a + 3) = r := ⟨_, rfl⟩
    obtain ⟨r2, hr2⟩ : ∃ r, nthP P (a + 5) = r := ⟨_, rfl⟩
    rw [hr] at p0' p1' p2' v0 v1 v2 v4
    rw [hr2] at p6' p7' p8'
    have HR := Lib.hid hr
    have HR2 := Lib.hid hr2
    clear hr hr2 v3 hk4 hm1
    have y0 : w4.cell? ⟨b4, o4 + 3, none⟩ = some (.int .i64 r.k) := R4.k.cell p0'
    have y1 : w4.cell? ⟨b4, o4 + 4, none⟩ = some (.int .i64 r.f) := R4.k.cell p1'
    have y2 : w4.cell? ⟨b4, o4 + 5, none⟩ = some (.int .i64 r.t) := R4.k.cell p2'
    have y6 : w4.cell? ⟨b4, o4 + 9, none⟩ = some (.int .i64 r2.k) := R4.k.cell p6'
    have y7 : w4.cell? ⟨b4, o4 + 10, none⟩ = some (.int .i64 r2.f) := R4.k.cell p7'
    have y8 : w4.cell? ⟨b4, o4 + 11, none⟩ = some (.int .i64 r2.t) := R4.k.cell p8'
    have hcx := R4.h.cell
    have z3 : w4.cell? ⟨gh, 3, none⟩ = some (.int .i64 Prt.none_.k) := hcx 3
    have z4 : w4.cell? ⟨gh, 4, none⟩ = some (.int .i64 Prt.none_.f) := hcx 4
    have z5 : w4.cell? ⟨gh, 5, none⟩ = some (.int .i64 Prt.none_.t) := hcx 5
    have z6 : w4.cell? ⟨gh, 6, none⟩ = some (.int .i64 Prt.none_.k) := hcx 6
    have z7 : w4.cell? ⟨gh, 7, none⟩ = some (.int .i64 Prt.none_.f) := hcx 7
    have z8 : w4.cell? ⟨gh, 8, none⟩ = some (.int .i64 Prt.none_.t) := hcx 8
    have zf := R4.h.frozen
    have zl := R4.h.lt
    have hne : b4 ≠ gh := by
      have := R4.lh
      omega
    clear hcx
    go_upto_region 12 with fail
    have y0d : w4.drew.cell? ⟨b4, o4 + 3, none⟩ = some (.int .i64 r.k) := y0
    have y1d : w4.drew.cell? ⟨b4, o4 + 4, none⟩ = some (.int .i64 r.f) := y1
    have y2d : w4.drew.cell? ⟨b4, o4 + 5, none⟩ = some (.int .i64 r.t) := y2
    have y6d : w4.drew.cell? ⟨b4, o4 + 9, none⟩ = some (.int .i64 r2.k) := y6
    have y7d : w4.drew.cell? ⟨b4, o4 + 10, none⟩ = some (.int .i64 r2.f) := y7
    have y8d : w4.drew.cell? ⟨b4, o4 + 11, none⟩ = some (.int .i64 r2.t) := y8
    go_cut [4] (fun v wx => v = .bool false ∧ Rx W wx g gh A n c PA pn pc (a + 6) (hdA Prt.none_ r r2 Prt.none_ false))
    case first =>
      clear n1 n2 n3 n4 HV HQ HOK HR HR2 HT1' R1 R2 R3 hT4 hTC DI DJ
      have HR4 := Lib.hid R4
      clear R4 hl hP
      go_region_held3 (fun w' => w'.cell? ⟨b4, o4 + 3, none⟩ = some (.int .i64 r.k) ∧ w'.cell? ⟨b4, o4 + 4, none⟩ = some (.int .i64 r.f) ∧ w'.cell? ⟨b4, o4 + 5, none⟩ = some (.int .i64 r.t) ∧ w'.cell? ⟨b4, o4 + 9, none⟩ = some (.int .i64 r2.k) ∧ w'.cell? ⟨b4, o4 + 10, none⟩ = some (.int .i64 r2.f) ∧ w'.cell? ⟨b4, o4 + 11, none⟩ = some (.int .i64 r2.t))
        (exact ⟨(by repeat (first | (with_reducible exact y0) | (with_reducible exact y0d) | (with_reducible refine cellH ?_ hne) | (with_reducible refine cellD ?_))), (by repeat (first | (with_reducible exact y1) | (with_reducible exact y1d) | (with_reducible refine cellH ?_ hne) | (with_reducible refine cellD ?_))), (by repeat (first | (with_reducible exact y2) | (with_reducible exact y2d) | (with_reducible refine cellH ?_ hne) | (with_reducible refine cellD ?_))), (by repeat (first | (with_reducible exact y6) | (with_reducible exact y6d) | (with_reducible refine cellH ?_ hne) | (with_reducible refine cellD ?_))), (by repeat (first | (with_reducible exact y7) | (with_reducible exact y7d) | (with_reducible refine cellH ?_ hne) | (with_reducible refine cellD ?_))), (by repeat (first | (with_reducible exact y8) | (with_reducible exact y8d) | (with_reducible refine cellH ?_ hne) | (with_reducible refine cellD ?_)))⟩)
        (fail)
      all_goals
        go_wp2_with fail
        go_meet
        refine ⟨rfl, ?_⟩
        have R0 : Rx W w4 g gh A n c PA pn pc (a + 6) (hdA Prt.none_ Prt.none_ Prt.none_ Prt.none_ false) := HR4.out
        try (with_reducible refine Rx.drew ?_)
        first
          | (with_reducible refine Rx.of ((((((R0.set 3 _).set 4 _).set 5 _).set 6 _).set 7 _).set 8 _) ?_)
          | (with_reducible refine Rx.of ((((((R0.set 6 _).set 7 _).set 8 _).set 3 _).set 4 _).set 5 _) ?_)
          | (with_reducible refine Rx.of ((((((R0.set 3 _).set 4 _).set 5 _).drew.set 6 _).set 7 _).set 8 _) ?_)
          | (with_reducible refine Rx.of ((((((R0.set 6 _).set 7 _).set 8 _).drew.set 3 _).set 4 _).set 5 _) ?_)
        rfl
    case rest =>
      obtain ⟨rfl, RR⟩ := hcut
      have x0 : wc.cell? ⟨g, 0, none⟩ = some (.slice A n c) := RR.b.cell 0
      have x1 : wc.cell? ⟨b4, o4 + 4, none⟩ = some (.int .i64 r.f) := RR.k.cell p1'
      have x2 : wc.cell? ⟨b4, o4 + 5, none⟩ = some (.int .i64 r.t) := RR.k.cell p2'
      have MK : Hid (∀ w', Kept wc w' → w'.cell? ⟨g, 0, none⟩ = some (.slice A n c) ∧ w'.cell? ⟨b4, o4 + 4, none⟩ = some (.int .i64 r.f) ∧ w'.cell? ⟨b4, o4 + 5, none⟩ = some (.int .i64 r.t)) := fun w' kk => ⟨kk.cell x0, kk.cell x1, kk.cell x2⟩
      have hcap := hl.cap
      have hcut := run_cut_lh appT_runes A n c (r.f + 1).toNat (r.t - 1).toNat (by omega) (by omega)
      have hsl := (hl.kept RR.k).cut1 (i := (r.f + 1).toNat) (m := (r.t - 1).toNat) (by omega) (by omega)
      obtain ⟨i1, hi1⟩ : ∃ i1, (r.f + 1).toNat = i1 := ⟨_, rfl⟩
      obtain ⟨i2, hi2⟩ : ∃ i2, (r.t - 1).toNat = i2 := ⟨_, rfl⟩
      have e1 : (i1 : Int) = r.f + 1 := by omega
      have e2 : (i2 : Int) = r.t - 1 := by omega
      have hpub : pubOK l r = ((l.drop i1).take (i2 - i1)).all isPubid := by
        unfold pubOK
        rw [hi1, hi2]
      rw [hi1, hi2] at hcut hsl
      rw [e1, e2] at hcut
      obtain ⟨CA, hCA⟩ : ∃ CA, cutA A c i1 1 = CA := ⟨_, rfl⟩
      rw [hCA] at hcut hsl
      have HAL := Lib.hid (fun w' (kk : Kept wc w') => all_pub CA (i2 - i1) (c - i1) ((l.drop i1).take (i2 - i1)) w' (hsl.kept kk))
      rw [← hpub] at HAL
      have wf := IntWalk.i64_in (r.f + 1) (by omega)
      have wt := IntWalk.i64_in (r.t - 1) (by omega)
      have HRR := Lib.hid RR
      clear hCA hpub hsl hi1 hi2 e1 e2 x0 x1 x2 R1 R2 R3 R4 hT4 hTC DI DJ RR n1 n2 n3 y0 y1 y2 y6 y7 y8 y0d y1d y2d y6d y7d y8d z3 z4 z5 z6 z7 z8 zf zl
      go_upto_region 13 with fail
      go_region_held3 (fun w' => w'.cell? ⟨g, 0, none⟩ = some (.slice A n c) ∧ w'.cell? ⟨b4, o4 + 4, none⟩ = some (.int .i64 r.f) ∧ w'.cell? ⟨b4, o4 + 5, none⟩ = some (.int .i64 r.t))
        (first | (with_reducible exact MK.out _ (Kept.refl wc).drew) | (with_reducible exact MK.out _ kw1))
        (first | (go_at_call 53; refine (HAL.out _ (Kept.refl wc).drew).mono ?_; rintro e w6 ⟨rfl, k6⟩; have kw1 : Kept wc w6 := Kept.trans (Kept.refl wc).drew k6))
      all_goals
        go_wp2_with fail
        go_ret
        rw [HV.out, HR.out, HR2.out]
        exact ⟨rfl, HRR.out.k.trans kw1, fun _ => HRR.out.kept kw1⟩
end Go.Proofs.Ytnfcfpcpfnhcnaa
