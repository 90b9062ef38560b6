/- The library's insertion sort at diags: walked. -/
import Derived.Test.YtdcigdkeakiknaaSpsG
import Derived.Test.YtdcigdkeakiknaaQuiet
import Derived.BigQuiet
import Derived.BigRegion
namespace Go.Proofs.Ytdcigdkeakiknaa
open Go.RowKit
attribute [local go_sem ↓] Go.wp_at_zero Go.wp_at_succ

/-- What a sort of a stretch does. -/
def Sorts (B g n c : Nat) (X U Y : List Dg) (w : World) (e : Ending) (w' : World) : Prop := e = .returned (.tuple #[]) ∧ w.grownBy w' (some g) ∧ ∃ W, W.Perm U ∧ InOrder ltD W ∧ Row B g n c w' (X ++ W ++ Y)
/-- Where the insertion sort stands: S in order ahead, R still to put. -/
structure InsAt (B g n c : Nat) (X U Y : List Dg) (a b : Nat) (w : World) (S R : List Dg) : Prop where
  row : Row B g n c w (X ++ S ++ R ++ Y)
  perm : (S ++ R).Perm U
  ord : InOrder ltD S
  len : a + S.length + R.length = b
theorem InsAt.next {B g n c : Nat} {X U Y : List Dg} {a b p : Nat} {w w' : World} {S R : List Dg} {x : Dg} (h : InsAt B g n c X U Y a b w S (x :: R)) (hr : Row B g n c w' (X ++ S.take p ++ [x] ++ S.drop p ++ (R ++ Y))) (hlo : ∀ y ∈ S.take p, ltD x y = false) (hhi : ∀ y ∈ S.drop p, ltD x y = true) :
    InsAt B g n c X U Y a b w' (S.take p ++ x :: S.drop p) R := by
  refine ⟨by simpa using hr, ?_, put_one ltD_strict (by rw [List.take_append_drop]; exact h.ord) hlo (fun y hy => ltD_strict.asymm (hhi y hy)), ?_⟩
  · refine List.Perm.trans ?_ h.perm
    have e1 : (S.take p ++ x :: S.drop p).Perm (x :: (S.take p ++ S.drop p)) := List.perm_middle
    rw [List.take_append_drop] at e1
    exact (e1.append_right R).trans List.perm_middle.symm
  · have h1 := h.len
    rw [← h1]
    simp only [List.length_append, List.length_take, List.length_drop, List.length_cons]
    omega
set_option maxRecDepth 100000 in
set_option maxHeartbeats 8000000 in
theorem ins0_any (A : Option Addr) (n c a : Nat) (F : Value) (w : World) (hn : a ≤ 1000) :
    Calls Try.prog 31 #[.slice A n c, .int .i64 (a : Int), .int .i64 (a : Int), F] w fun e w' => e = .returned (.tuple #[]) ∧ w = w' := by
  have s1 : IntKind.i64.wrap ((a : Int) + 1) = (a : Int) + 1 := IntWalk.i64_in _ (by omega)
  have l1 : ¬ ((a : Int) + 1 < a) := by omega
  go_enter Try.func31, Try.ntmps31
  go_wp2_with fail
  refine wp_loop_rounds 1 ?_
  rw [rounds_succ]
  go_wp2_with fail
  go_end0
  exact ⟨rfl, rfl⟩
set_option maxRecDepth 100000 in
set_option maxHeartbeats 8000000 in
theorem ins1_any (B g n c : Nat) (X U Y : List Dg) (a b : Nat) (w : World) (h : Row B g n c w (X ++ U ++ Y)) (ha : X.length = a) (hb : a + U.length = b) (hn : n ≤ 1000) (hU : 1 ≤ U.length) :
    Calls Try.prog 31 #[.slice (some ⟨g, 0, none⟩) n c, .int .i64 (a : Int), .int .i64 (b : Int), .func (.func 25) #[] #[]] w fun e w' => Sorts B g n c X U Y w e w' := by
  have hl := h.len
  simp only [List.length_append] at hl
  have hE := order_enters
  have hcap := h.sl.cap
  have hmax := h.sl.max
  obtain ⟨x0, R0, hx0⟩ : ∃ x R, U = x :: R := by
    cases U with
    | nil => simp at hU
    | cons x R => exact ⟨x, R, rfl⟩
  have HST : Hid (InsAt B g n c X U Y a b w [x0] R0) := by
    refine ⟨?_, ?_, ?_, ?_⟩
    · rw [hx0] at h
      simpa using h
    · rw [hx0]
      exact List.Perm.refl _
    · exact List.pairwise_singleton _ _
    · rw [← hb, hx0]
      simp
      omega
  have HLN := Lib.hid (show X.length = a ∧ b ≤ n from ⟨ha, by omega⟩)
  have s0 : IntKind.i64.wrap ((a : Int) + 1) = ((a + 1 : Nat) : Int) := by
    rw [show (a : Int) + 1 = ((a + 1 : Nat) : Int) by omega]
    exact IntWalk.i64_in _ (by omega)
  have hbn : b ≤ 1000 := by omega
  have hab : a < b := by omega
  obtain ⟨a1, ha1⟩ : ∃ a1, a + 1 = a1 := ⟨_, rfl⟩
  have HA1 := Lib.hid ha1
  rw [ha1] at s0
  clear hl ha hb h hU hx0 ha1
  go_enter Try.func31, Try.ntmps31
  go_wp2_with fail
  go_loopw [8] (fun u wr => ∃ (i : Nat) (S R : List Dg), u = .int .i64 i ∧ Hid (a + S.length = i) ∧ a < i ∧ i ≤ b ∧ w.grownBy wr (some g) ∧ Hid (InsAt B g n c X U Y a b wr S R)) (fun u _ => b - (intOf u).toNat)
  case atStart => exact ⟨a1, [x0], R0, rfl, HA1.out, by have := HA1.out; omega, by have := HA1.out; omega, World.grownBy.refl _ _, HST⟩
  case round =>
    clear HST
    obtain ⟨i, S, R, rfl, HI, hai, hib, hg, HS⟩ := hrel
    by_cases hlt : i < b
    · have li : (i : Int) < b := by omega
      have hlen := HS.out.len
      have hi := HI.out
      obtain ⟨x, R', rfl⟩ : ∃ x R', R = x :: R' := by
        cases R with
        | nil => simp at hlen; omega
        | cons x R' => exact ⟨x, R', rfl⟩
      have HR0 := Lib.hid (show Row B g n c wr (X ++ S.take S.length ++ [x] ++ S.drop S.length ++ (R' ++ Y)) by simpa using HS.out.row)
      clear hlen hi
      have s6 : IntKind.i64.wrap ((i : Int) + 1) = ((i + 1 : Nat) : Int) := by
        rw [show (i : Int) + 1 = ((i + 1 : Nat) : Int) by omega]
        exact IntWalk.i64_in _ (by omega)
      go_wp2_with fail
      go_loopw [9] (fun u wr => ∃ p : Nat, u = .int .i64 ((a + p : Nat) : Int) ∧ a + p ≤ i ∧ w.grownBy wr (some g) ∧ Hid (Row B g n c wr (X ++ S.take p ++ [x] ++ S.drop p ++ (R' ++ Y))) ∧ Hid (∀ y ∈ S.drop p, ltD x y = true)) (fun u _ => (intOf u).toNat)
      case atStart => exact ⟨S.length, by rw [HI.out], by rw [HI.out]; omega, hg, HR0.out, by rw [List.drop_length]; intro y hy; cases hy⟩
      case round =>
        clear HR0 hg
        obtain ⟨p, rfl, hpi, hg, HR, HD⟩ := hrel
        by_cases hp : p = 0
        · have d0 : decide ((a : Int) < ((a + p : Nat) : Int)) = false := by simp [hp]
          have HP := Lib.hid hp
          obtain ⟨k, hk⟩ : ∃ k, a + p = k := ⟨_, rfl⟩
          have hk2 : k = a := by omega
          have d1 : ¬ (a : Int) < (k : Int) := by omega
          rw [hk] at d0 ⊢
          clear hp hk hk2
          go_upto_region 4 with fail
          go_region
          go_wp2_with fail
          have HN' : Hid (InsAt B g n c X U Y a b wr.drew (S.take p ++ x :: S.drop p) R') := HS.out.next HR.out.drew (by rw [HP.out]; intro y hy; cases hy) HD.out
          go_roundw
          case rel => exact ⟨i + 1, _, R', rfl, by unfold Hid; rw [List.length_append, List.length_cons, List.length_take, List.length_drop, HP.out]; have := HI.out; omega, by omega, hlt, grown_drew hg, HN'⟩
          case measure =>
            simp [intOf]
            omega
        · have hi := HI.out
          obtain ⟨p1, rfl⟩ : ∃ p1, p = p1 + 1 := ⟨p - 1, by omega⟩
          have hb := HLN.out
          obtain ⟨y, hy⟩ : ∃ y, S[p1]? = some y := ⟨S[p1]'(by omega), List.getElem?_eq_getElem _⟩
          obtain ⟨hb1, hb2⟩ := bubble (X := X) (Y := R' ++ Y) (x := x) hy
          have hr := HR.out
          rw [hb2] at hr
          obtain ⟨k, hk⟩ : ∃ k, a + p1 = k := ⟨_, rfl⟩
          obtain ⟨c1, c2, c3⟩ := swap2b (X ++ S.take p1) (S.drop (p1 + 1) ++ (R' ++ Y)) x y (k := k) (by rw [List.length_append, List.length_take, hb.1]; omega)
          rw [← hb1] at c3
          obtain ⟨x0, x1, x2⟩ := hr.get c2
          obtain ⟨y0, y1, y2⟩ := hr.get c1
          have hHB := Lib.hid (fun hh => below2 (x := x) (HS.out.ord) hy hh)
          have HA := Lib.hid (fun hh => above2 (x := x) (HS.out.ord) hy hh)
          have l1 : k < n := by omega
          have l2 : k + 1 < n := by omega
          have HRR := Lib.hid hr
          have HC3 := Lib.hid c3
          have HK := Lib.hid hk
          have d0 : decide ((a : Int) < ((k + 1 : Nat) : Int)) = true := by simp; omega
          have d1 : (a : Int) < ((k + 1 : Nat) : Int) := by omega
          have s7 : IntKind.i64.wrap (((k + 1 : Nat) : Int) - 1) = (k : Int) := by
            rw [show ((k + 1 : Nat) : Int) - 1 = (k : Int) by omega]
            exact IntWalk.i64_in _ (by omega)
          rw [show a + (p1 + 1) = k + 1 by omega] at hpi ⊢
          obtain ⟨k1, hk1⟩ : ∃ k1, k + 1 = k1 := ⟨_, rfl⟩
          have hkk : k < k1 := by omega
          rw [hk1] at x0 x1 x2 l2 d0 d1 s7 HC3 hpi c2 ⊢
          have HPI := Lib.hid (show a + p1 ≤ i by omega)
          have HCC := Lib.hid (show _ ∧ _ from ⟨c1, c2⟩)
          clear hb1 hb2 hr c1 c2 c3 hy hk hk1 hi hb hp
          have c0 : ∀ p : KeptFrom wr, p.x.cell? ⟨g, k1 * 3, none⟩ = some (.int .i64 x.f) := fun p => p.k.cell x0
          have c1 : ∀ p : KeptFrom wr, p.x.cell? ⟨g, k1 * 3 + 1, none⟩ = some (.int .i64 x.t) := fun p => p.k.cell x1
          have c2 : ∀ p : KeptFrom wr, p.x.cell? ⟨g, k1 * 3 + 2, none⟩ = some (.int .i64 x.k) := fun p => p.k.cell x2
          have e0 : ∀ p : KeptFrom wr, p.x.cell? ⟨g, k * 3, none⟩ = some (.int .i64 y.f) := fun p => p.k.cell y0
          have e1 : ∀ p : KeptFrom wr, p.x.cell? ⟨g, k * 3 + 1, none⟩ = some (.int .i64 y.t) := fun p => p.k.cell y1
          have e2 : ∀ p : KeptFrom wr, p.x.cell? ⟨g, k * 3 + 2, none⟩ = some (.int .i64 y.k) := fun p => p.k.cell y2
          obtain ⟨r, HC, hcs⟩ : ∃ r : Int, Hid (∀ w, Calls Try.prog 25 #[.agg #[.int .i64 x.f, .int .i64 x.t, .int .i64 x.k], .agg #[.int .i64 y.f, .int .i64 y.t, .int .i64 y.k]] w fun e w' => e = .returned (.int .i64 r) ∧ Kept w w') ∧ ((r < 0 ∧ Hid (ltD x y = true)) ∨ (¬ r < 0 ∧ Hid (ltD x y = false))) := by
            refine ⟨_, fun w => order_any x y w, ?_⟩
            have h := ordD_lt x y
            by_cases hr : ordD x y < 0
            · exact .inl ⟨hr, by unfold Hid; rw [← h]; simpa using hr⟩
            · exact .inr ⟨hr, by unfold Hid; rw [← h]; simpa using hr⟩
          clear x0 x1 x2 y0 y1 y2
          rcases hcs with ⟨hr0, hlt0⟩ | ⟨hr0, hlt0⟩
          · have hDN := Lib.hid (HA.out hlt0.out)
            clear HA hHB hlt0
            go_upto_region 4 with fail
            refine wp_region_kept (by kernel_rfl) (by kernel_rfl) ?_
            repeat (quiet_step ((go_at_call 25; with_reducible exact Calls.kept_of (HC.out _))))
            refine wpQuiet_nil ?_
            rintro w5 ⟨⟨w5', k5⟩, hw5⟩
            obtain rfl : w5 = w5' := hw5
            have hg5 := hg.trans (grown_of_kept (row := some g) k5)
            have hr5 := HRR.out.kept k5
            clear c0 c1 c2 e0 e1 e2 hg HR HRR HC hr0
            obtain ⟨c1, c2⟩ := HCC.out
            obtain ⟨x0, x1, x2⟩ := hr5.get c2
            obtain ⟨y0, y1, y2⟩ := hr5.get c1
            have HR5 := Lib.hid hr5
            have fr := hr5.frozen
            have gl := hr5.lt.1
            clear hr5 c1 c2
            go_upto_region 6 with fail
            go_region
            obtain ⟨r1, g1⟩ := HR5.out.set l2 y
            obtain ⟨r2, g2⟩ := r1.set l1 x
            have hg2 := (hg5.trans g1).trans g2
            refine ex_named ?_
            intro w6 hw6
            have e6 : w6 = (set3 (set3 w5 g k1 y) g k x).drew := hw6
            have r6 : Hid (Row B g n c w6 (X ++ S.take p1 ++ [x] ++ S.drop p1 ++ (R' ++ Y))) := by unfold Hid; rw [e6, ← HC3.out]; exact r2.drew
            have g6 : w.grownBy w6 (some g) := by rw [e6]; exact grown_drew hg2
            clear hw6 e6 r1 r2 g1 g2 hg2 x0 x1 x2 y0 y1 y2 fr gl hg5 HR5
            go_wp2_with fail
            go_roundw
            case rel => exact ⟨p1, by rw [HK.out], HPI.out, g6, r6, hDN.out⟩
            case measure =>
              simp [intOf]
              omega
          · have hDN := Lib.hid (hHB.out hlt0.out)
            clear HA hHB hlt0
            go_upto_region 4 with fail
            refine wp_region_kept (by kernel_rfl) (by kernel_rfl) ?_
            repeat (quiet_step ((go_at_call 25; with_reducible exact Calls.kept_of (HC.out _))))
            refine wpQuiet_nil ?_
            rintro w5 ⟨⟨w5', k5⟩, hw5⟩
            obtain rfl : w5 = w5' := hw5
            have hg5 := hg.trans (grown_of_kept (row := some g) k5)
            have hr5 := Lib.hid (HR.out.kept k5)
            clear c0 c1 c2 e0 e1 e2 hg HR HRR HC
            go_wp2_with fail
            have HN' : Hid (InsAt B g n c X U Y a b w5 (S.take (p1 + 1) ++ x :: S.drop (p1 + 1)) R') := HS.out.next hr5.out hDN.out HD.out
            have HLL := Lib.hid HI.out
            go_roundw
            case rel => exact ⟨i + 1, _, R', rfl, by unfold Hid; rw [List.length_append, List.length_cons, List.length_take, List.length_drop]; have := HPI.out; have := HI.out; have := HK.out; omega, by omega, hlt, hg5, HN'⟩
            case measure =>
              simp [intOf]
              omega
    · obtain rfl : i = b := by omega
      have hln := HS.out.len
      obtain rfl : R = [] := List.eq_nil_of_length_eq_zero (by have := HI.out; omega)
      have HF := Lib.hid (show S.Perm U ∧ InOrder ltD S ∧ Row B g n c wr (X ++ S ++ Y) from ⟨by simpa using HS.out.perm, HS.out.ord, by simpa using HS.out.row⟩)
      have l1 : ¬ ((i : Int) < (i : Int)) := by omega
      clear hln
      go_wp2_with fail
      go_end0
      exact ⟨rfl, hg, S, HF.out⟩
end Go.Proofs.Ytdcigdkeakiknaa
