/- The library's symMerge at diags, one element ahead: walked. -/
import Derived.Test.YtdcigdkeakiknaaSpsD
namespace Go.Proofs.Ytdcigdkeakiknaa
open Go.RowKit
attribute [local go_sem ↓] Go.wp_at_zero Go.wp_at_succ

theorem fn_enters {P : Program} {f : FuncId} {fn : Func} (hf : P.funcs[f]? = some fn) (hname : (fn.name == "runtime.NumGoroutine") = false) (hb : fn.body.isSome = true) (args : Array Value) (w : World) :
    (callFunc f args).run P w = .ok (.enter f args) w := by
  have h1 : fn.name ≠ "runtime.NumGoroutine" := by simpa using hname
  obtain ⟨c, hc⟩ := Option.isSome_iff_exists.1 hb
  simp [callFunc, hf, h1, hc]
theorem grown_of_kept {w w' : World} {row : Option Nat} (k : Kept w w') : w.grownBy w' row := by
  obtain ⟨h1, h2, h3, h4, h5⟩ := (show Below w.heap.size w w' from k)
  exact ⟨h1, h2, h3, h4, fun b hb _ => h5 b hb⟩
theorem Row.kept {B g n c : Nat} {w w' : World} {d : List Dg} (h : Row B g n c w d) (k : Kept w w') : Row B g n c w' d := own_kept h k
theorem order_enters (args : Array Value) (w : World) : (callFunc 25 args).run Try.prog w = .ok (.enter 25 args) w := fn_enters Try.func25 (by kernel_rfl) (by kernel_rfl) args w
/-- The order, asked: is the one ahead of the other? -/
theorem ahead_any (x y : Dg) (w : World) : Calls Try.prog 25 #[.agg #[.int .i64 x.f, .int .i64 x.t, .int .i64 x.k], .agg #[.int .i64 y.f, .int .i64 y.t, .int .i64 y.k]] w fun e w' => ∃ r : Int, e = .returned (.int .i64 r) ∧ ((r < 0 ∧ Hid (ltD x y = true)) ∨ (¬ r < 0 ∧ Hid (ltD x y = false))) ∧ Kept w w' := by
  refine (order_any x y w).mono ?_
  rintro e w' ⟨he, hk⟩
  refine ⟨_, he, ?_, hk⟩
  have h := ordD_lt x y
  by_cases hr : ordD x y < 0
  · exact .inl ⟨hr, by unfold Hid; rw [← h]; simpa using hr⟩
  · exact .inr ⟨hr, by unfold Hid; rw [← h]; simpa using hr⟩
theorem half_of (i j : Nat) (h : i < j) : ∃ q : Nat, ((i : Int) + j) / 2 = (q : Int) ∧ i ≤ q ∧ q < j := ⟨(i + j) / 2, by omega, by omega, by omega⟩
theorem take_all {V : List Dg} {p : Nat} {y : Dg} {q : Dg → Prop} (h : ∀ z ∈ V.take p, q z) (hy : V[p]? = some y) (hq : q y) : ∀ z ∈ V.take (p + 1), q z := by
  intro z hz
  rw [List.take_add_one, hy, Option.toList_some] at hz
  rcases List.mem_append.1 hz with hz | hz
  · exact h z hz
  · rw [List.mem_singleton.1 hz]
    exact hq
/-- In a row in order: what stands ahead of one that is ahead is ahead. -/
theorem below_all {V : List Dg} {p : Nat} {x y : Dg} (hV : InOrder ltD V) (hy : V[p]? = some y) (h : ltD y x = true) : ∀ z ∈ V.take (p + 1), ltD z x = true := by
  intro z hz
  have hp := (List.getElem?_eq_some_iff.1 hy).1
  obtain ⟨k, hk, hkz⟩ := List.mem_iff_getElem.1 hz
  rw [List.length_take] at hk
  rw [List.getElem_take] at hkz
  have hle : ltD y z = false := by
    by_cases e : k = p
    · subst e
      have : y = z := by
        rw [← hkz]
        exact (Option.some.inj ((List.getElem?_eq_getElem (by omega)).symm.trans hy)).symm
      rw [this]
      exact ltD_strict.irr z
    · have := List.pairwise_iff_getElem.1 hV k p (by omega) hp (by omega)
      rw [hkz] at this
      rw [(List.getElem?_eq_some_iff.1 hy).2] at this
      exact this
  cases e : ltD z x with
  | true => rfl
  | false =>
    have := ltD_strict.le_trans x z y e hle
    rw [h] at this
    cases this
theorem above_all {V : List Dg} {p : Nat} {x y : Dg} (hV : InOrder ltD V) (hy : V[p]? = some y) (h : ltD y x = false) : ∀ z ∈ V.drop p, ltD z x = false := by
  intro z hz
  have hp := (List.getElem?_eq_some_iff.1 hy).1
  obtain ⟨k, hk, hkz⟩ := List.mem_iff_getElem.1 hz
  rw [List.length_drop] at hk
  rw [List.getElem_drop] at hkz
  have hle : ltD z y = false := by
    by_cases e : k = 0
    · subst e
      have : y = z := by
        rw [← hkz]
        exact (Option.some.inj ((List.getElem?_eq_getElem (by omega)).symm.trans hy)).symm
      rw [this]
      exact ltD_strict.irr z
    · have := List.pairwise_iff_getElem.1 hV p (p + k) hp (by omega) (by omega)
      rw [hkz] at this
      rw [(List.getElem?_eq_some_iff.1 hy).2] at this
      exact this
  exact ltD_strict.le_trans x y z h hle
theorem swap2 (L R : List Dg) (x y : Dg) {k : Nat} (hk : L.length = k) : (L ++ x :: y :: R)[k]? = some x ∧ (L ++ x :: y :: R)[k + 1]? = some y ∧ ((L ++ x :: y :: R).set k y).set (k + 1) x = L ++ y :: x :: R := by
  subst hk
  refine ⟨by simp, ?_, ?_⟩
  · rw [List.getElem?_append_right (by omega), show L.length + 1 - L.length = 1 by omega]
    rfl
  · rw [List.set_append_right _ _ (Nat.le_refl _), Nat.sub_self, List.set_cons_zero, List.set_append_right _ _ (by omega), show L.length + 1 - L.length = 1 by omega, List.set_cons_succ, List.set_cons_zero]
theorem bubble {X V Y : List Dg} {x y : Dg} {p : Nat} (hy : V[p]? = some y) : X ++ V.take p ++ [x] ++ V.drop p ++ Y = (X ++ V.take p) ++ x :: y :: (V.drop (p + 1) ++ Y) ∧ X ++ V.take (p + 1) ++ [x] ++ V.drop (p + 1) ++ Y = (X ++ V.take p) ++ y :: x :: (V.drop (p + 1) ++ Y) := by
  have h1 := List.getElem?_eq_some_iff.1 hy
  constructor
  · rw [List.drop_eq_getElem_cons h1.1, h1.2]
    simp
  · rw [List.take_add_one, hy]
    simp
set_option maxRecDepth 100000 in
set_option maxHeartbeats 8000000 in
theorem sym1_any (B g n c : Nat) (X V Y : List Dg) (x : Dg) (a m b : Nat) (w : World) (h : Row B g n c w (X ++ [x] ++ V ++ Y)) (ha : X.length = a) (hm : a + 1 = m) (hb : m + V.length = b) (hV : InOrder ltD V) (hn : n ≤ 1000) :
    Calls Try.prog 32 #[.slice (some ⟨g, 0, none⟩) n c, .int .i64 (a : Int), .int .i64 (m : Int), .int .i64 (b : Int), .func (.func 25) #[] #[]] w fun e w' => e = .returned (.tuple #[]) ∧ w.grownBy w' (some g) ∧ ∃ q, q ≤ V.length ∧ Row B g n c w' (X ++ V.take q ++ [x] ++ V.drop q ++ Y) ∧ (∀ y ∈ V.take q, ltD y x = true) ∧ ∀ y ∈ V.drop q, ltD y x = false := by
  have hl := h.len
  simp only [List.length_append, List.length_singleton] at hl
  have hE := order_enters
  have hcap := h.sl.cap
  have hmax := h.sl.max
  have HX : Hid ((X ++ [x] ++ V ++ Y)[a]? = some x) := by
    unfold Hid
    rw [List.append_assoc, List.append_assoc, List.getElem?_append_right (by omega), ha, Nat.sub_self]
    rfl
  have HV : Hid (∀ p y, V[p]? = some y → (X ++ [x] ++ V ++ Y)[m + p]? = some y) := by
    intro p y hy
    have hp := (List.getElem?_eq_some_iff.1 hy).1
    rw [List.getElem?_append_left (by simp; omega), List.getElem?_append_right (by simp; omega)]
    rw [show m + p - (X ++ [x]).length = p by simp; omega]
    exact hy
  have HVO := Lib.hid hV
  have HLN := Lib.hid (show m + V.length = b ∧ X.length = a ∧ a + 1 = m ∧ b ≤ n from ⟨hb, ha, hm, by omega⟩)
  have s0 : IntKind.i64.wrap ((m : Int) - a) = 1 := by
    rw [show (m : Int) - a = 1 by omega]
    rfl
  have hbn : b ≤ 1000 := by omega
  have hmb : m ≤ b := by omega
  have ham : a < m := by omega
  clear hV hl hm ha hb
  go_enter Try.func32, Try.ntmps32
  go_wp2_with fail
  go_loopw [10, 11] (fun u v wr => ∃ i j : Nat, u = .int .i64 i ∧ v = .int .i64 j ∧ m ≤ i ∧ i ≤ j ∧ j ≤ b ∧ w.grownBy wr (some g) ∧ Row B g n c wr (X ++ [x] ++ V ++ Y) ∧ Hid ((∀ y ∈ V.take (i - m), ltD y x = true) ∧ ∀ y ∈ V.drop (j - m), ltD y x = false)) (fun u v _ => (intOf v).toNat - (intOf u).toNat)
  case atStart => exact ⟨m, b, rfl, rfl, Nat.le_refl _, hmb, Nat.le_refl _, World.grownBy.refl _ _, h, by simp, by rw [List.drop_eq_nil_of_le (by have := HLN.out.1; omega)]; simp⟩
  case round =>
    obtain ⟨i, j, rfl, rfl, hmi, hij, hjb, hg, hr, HI⟩ := hrel
    by_cases hlt : i < j
    · obtain ⟨q, hq, hiq, hqj⟩ := half_of i j hlt
      have hLN := HLN.out
      obtain ⟨y, hy⟩ : ∃ y, V[q - m]? = some y := ⟨V[q - m]'(by omega), List.getElem?_eq_getElem _⟩
      have hy2 := HV.out (q - m) y hy
      rw [show m + (q - m) = q by omega] at hy2
      obtain ⟨x0, x1, x2⟩ := hr.get HX.out
      obtain ⟨y0, y1, y2⟩ := hr.get hy2
      have HB := Lib.hid (fun hh => below_all (x := x) HVO.out hy hh)
      have HA := Lib.hid (fun hh => above_all (x := x) HVO.out hy hh)
      have HRK := Lib.hid hr
      have s1 : IntKind.i64.wrap ((i : Int) + j) = (i : Int) + j := IntWalk.i64_in _ (by omega)
      have s2 : IntKind.u64.wrap ((i : Int) + j) = (i : Int) + j := IntWalk.u64_in _ (by omega)
      have s3 : IntKind.i64.wrap (q : Int) = (q : Int) := IntWalk.i64_in _ (by omega)
      have s4 : IntKind.i64.wrap ((q : Int) + 1) = ((q + 1 : Nat) : Int) := by
        rw [show (q : Int) + 1 = ((q + 1 : Nat) : Int) by omega]
        exact IntWalk.i64_in _ (by omega)
      have l1 : q < n := by omega
      have l2 : a < n := by omega
      have l3 : (i : Int) < j := by omega
      clear hy hy2 hLN hr
      have HC := Lib.hid (ahead_any y x wr.drew)
      go_upto_region 5 with fail
      go_region_with (first | (go_at_call 25; refine HC.out.mono ?_; rintro e w5 ⟨r, rfl, hcs, hk5⟩))
      all_goals
        have hk5' : Kept wr w5 := Kept.trans (Kept.refl wr).drew hk5
        have hg5 := hg.trans (grown_of_kept (row := some g) hk5')
        have hr5 := HRK.out.kept hk5'
        rcases hcs with ⟨hr0, hlt0⟩ | ⟨hr0, hlt0⟩
        · go_wp2_with fail
          go_roundw
          case rel => exact ⟨q + 1, j, rfl, rfl, by omega, by omega, hjb, hg5, hr5, by rw [show q + 1 - m = q - m + 1 by omega]; exact HB.out hlt0.out, HI.out.2⟩
          case measure =>
            simp [intOf]
            omega
        · go_wp2_with fail
          go_roundw
          case rel => exact ⟨i, q, rfl, rfl, hmi, hiq, by omega, hg5, hr5, HI.out.1, HA.out hlt0.out⟩
          case measure =>
            simp [intOf]
            omega
    · obtain rfl : i = j := by omega
      obtain ⟨p0, hp0⟩ : ∃ p, i - m = p := ⟨_, rfl⟩
      rw [hp0] at HI
      have hLN := HLN.out
      have hi0 : i = m + p0 := by omega
      have hpV : p0 ≤ V.length := by omega
      have s5 : IntKind.i64.wrap ((i : Int) - 1) = ((a + p0 : Nat) : Int) := by
        rw [show (i : Int) - 1 = ((a + p0 : Nat) : Int) by omega]
        exact IntWalk.i64_in _ (by omega)
      obtain ⟨e0, he0⟩ : ∃ e, a + p0 = e := ⟨_, rfl⟩
      rw [he0] at s5
      have HE0 := Lib.hid he0
      have HPV := Lib.hid hpV
      have HR0 := Lib.hid (show w.grownBy wr (some g) ∧ Row B g n c wr (X ++ V.take 0 ++ [x] ++ V.drop 0 ++ Y) from ⟨hg, by simpa using hr⟩)
      have han : a + p0 + 1 ≤ n := by omega
      clear hr hg hLN he0 hpV hp0 hi0
      go_wp2_with fail
      go_loopw [13] (fun u wq => ∃ p : Nat, u = .int .i64 ((a + p : Nat) : Int) ∧ p ≤ p0 ∧ w.grownBy wq (some g) ∧ Hid (Row B g n c wq (X ++ V.take p ++ [x] ++ V.drop p ++ Y))) (fun u _ => e0 - (intOf u).toNat)
      case atStart => exact ⟨0, rfl, Nat.zero_le _, HR0.out.1, HR0.out.2⟩
      case round =>
        obtain ⟨p, rfl, hp, hg, HR⟩ := hrel
        by_cases hlt2 : p < p0
        · have hLN := HLN.out
          have hpV := HPV.out
          have he0 := HE0.out
          obtain ⟨y, hy⟩ : ∃ y, V[p]? = some y := ⟨V[p]'(by omega), List.getElem?_eq_getElem _⟩
          obtain ⟨hb1, hb2⟩ := bubble (X := X) (Y := Y) (x := x) hy
          have hr := HR.out
          rw [hb1] at hr
          obtain ⟨k, hk⟩ : ∃ k, a + p = k := ⟨_, rfl⟩
          obtain ⟨c1, c2, c3⟩ := swap2 (X ++ V.take p) (V.drop (p + 1) ++ Y) x y (k := k) (by rw [List.length_append, List.length_take, hLN.2.1]; omega)
          rw [← hb2] at c3
          obtain ⟨x0, x1, x2⟩ := hr.get c1
          obtain ⟨y0, y1, y2⟩ := hr.get c2
          have l1 : k < n := by omega
          have l2 : k + 1 < n := by omega
          have HRR := Lib.hid hr
          have HC3 := Lib.hid c3
          have fr := hr.frozen
          have gl := hr.lt.1
          have l3 : (k : Int) < e0 := by omega
          have HK := Lib.hid (show a + (p + 1) = k + 1 by omega)
          have hke : k < e0 := by omega
          have s6 : IntKind.i64.wrap ((k : Int) + 1) = ((k + 1 : Nat) : Int) := by
            rw [show (k : Int) + 1 = ((k + 1 : Nat) : Int) by omega]
            exact IntWalk.i64_in _ (by omega)
          rw [hk]
          obtain ⟨k1, hk1⟩ : ∃ k1, k + 1 = k1 := ⟨_, rfl⟩
          have hkk : k < k1 := by omega
          rw [hk1] at y0 y1 y2 l2 s6 HC3 HK
          clear hb1 hb2 hr c1 c2 c3 hy hk hk1 hLN hpV he0 HR
          go_upto_region 11 with fail
          go_region
          obtain ⟨r1, g1⟩ := HRR.out.set l1 y
          obtain ⟨r2, g2⟩ := r1.set l2 x
          have hg2 := (hg.trans g1).trans g2
          refine ex_named ?_
          intro w5 hw5
          have e5 : w5 = (set3 (set3 wr g k y) g k1 x).drew := hw5
          have r5 : Row B g n c w5 (X ++ V.take (p + 1) ++ [x] ++ V.drop (p + 1) ++ Y) := by rw [e5, ← HC3.out]; exact r2.drew
          have g5 : w.grownBy w5 (some g) := by rw [e5]; exact grown_drew hg2
          clear hw5 e5 r1 r2 g1 g2 hg2 x0 x1 x2 y0 y1 y2 fr hg HRR
          go_wp2_with fail
          go_roundw
          case rel => exact ⟨p + 1, by rw [HK.out], hlt2, g5, r5⟩
          case measure =>
            simp [intOf]
            omega
        · obtain rfl : p = p0 := by omega
          have l3 : ¬ (((a + p : Nat) : Int) < e0) := by have := HE0.out; omega
          have HPQ := HPV.out
          obtain ⟨k, hk⟩ : ∃ k, a + p = k := ⟨_, rfl⟩
          rw [hk] at l3 ⊢
          go_wp2_with fail
          refine bodyPost_ret (results_none rfl _ _ _) rfl ⟨rfl, hg, p, HPQ, ?_, HI.out.1, HI.out.2⟩
          first | exact HR.out | simpa using HR.out
end Go.Proofs.Ytdcigdkeakiknaa
