/- slices.Equal at binds and attributes, slices.EqualFunc at nodes, info.Same: walked. Printed by gen_infg.py. -/
import Derived.Test.YtnlncamiaddhfaaInfS
import Derived.Test.YtnlncamiaddhfaaInfD
namespace Go.Proofs.Ytnlncamiaddhfaa
open Go.RowKit
attribute [local go_sem ↓] Go.wp_at_zero Go.wp_at_succ

set_option maxHeartbeats 4000000 in
theorem eqBds_any (A : Option Addr) (n c : Nat) (l : List Bd) (A' : Option Addr) (n' c' : Nat) (l' : List Bd) (w : World) (h : Sl w 2 A n c (l.flatMap Bd.cells)) (h' : Sl w 2 A' n' c' (l'.flatMap Bd.cells)) :
    Calls Try.prog 30 #[.slice A n c, .slice A' n' c'] w fun e w' => e = .returned (.bool (sameBds l l')) ∧ Kept w w' := by
  have hl := h.llen (enc := Bd.cells) (fun _ => rfl) (by omega)
  have hl' := h'.llen (enc := Bd.cells) (fun _ => rfl) (by omega)
  have m1 := h.max
  have m2 := h.cap
  have m3 := h'.cap
  obtain ⟨F, hF⟩ : ∃ F, sameBds l l' = F := ⟨_, rfl⟩
  rw [hF]
  have HF := Lib.hid hF
  have HL := Lib.hid (show _ ∧ _ from ⟨hl, hl'⟩)
  clear hF hl hl'
  by_cases e : n = n'
  rotate_left
  · have i1 : ¬ (n : Int) = n' := by omega
    have hf : F = false := by rw [← HF.out, sameBds_len (by rw [HL.out.1, HL.out.2]; exact e)]
    have HFF := Lib.hid hf
    clear hf
    go_enter Try.func30, Try.ntmps30
    go_wp2_with fail
    go_ret
    exact ⟨ret_bool HFF.out.symm, Kept.refl w⟩
  subst e
  go_enter Try.func30, Try.ntmps30
  go_wp2_with fail
  go_loopw [13] (fun i wr => ∃ j : Nat, j ≤ n ∧ i = .int .i64 j ∧ Kept w wr ∧ Hid (F = sameBds (l.drop j) (l'.drop j))) (fun i _ => n - (intOf i).toNat)
  case atStart => exact ⟨0, Nat.zero_le _, rfl, Kept.refl _, HF.out.symm⟩
  case round =>
    obtain ⟨j, hj, rfl, hkept, HI⟩ := hrel
    by_cases hlt : j < n
    · obtain ⟨pb, po, x, rfl, hx, hxc, hxb⟩ := (h.kept hkept).elemb (enc := Bd.cells) (fun _ => rfl) (by omega) hlt
      obtain ⟨qb, qo, y, rfl, hy, hyc, hyb⟩ := (h'.kept hkept).elemb (enc := Bd.cells) (fun _ => rfl) (by omega) hlt
      have x0 : wr.cell? ⟨pb, po + j * 2, none⟩ = some (.string x.p) := hxc 0 _ rfl
      have y0 : wr.cell? ⟨qb, qo + j * 2, none⟩ = some (.string y.p) := hyc 0 _ rfl
      have x1 : wr.cell? ⟨pb, po + j * 2 + 1, none⟩ = some (.string x.u) := hxc 1 _ rfl
      have y1 : wr.cell? ⟨qb, qo + j * 2 + 1, none⟩ = some (.string y.u) := hyc 1 _ rfl
      have hs := HI.out
      rw [sameBds_step hx hy] at hs
      have HS := Lib.hid hs
      have l1 : (j : Int) < n := by omega
      have kd : Kept w wr.drew := hkept.drew
      clear hs hxc hyc hx hy
      go_upto_region 6 with fail
      cases q0 : eqS x.p y.p
      · have f0 : (x.p.toList == y.p.toList) = _ := q0
        have hb0 : sameBd x y = false := by simp [sameBd, q0]
        have HB0 := Lib.hid hb0
        clear q0 hb0
        go_region
        all_goals
          have HFF := Lib.hid (show F = false by rw [HS.out, HB0.out]; simp)
          go_wp2_with fail
          go_ret
          exact ⟨ret_bool HFF.out.symm, kd⟩
      cases q1 : eqS x.u y.u
      · have f1 : (x.u.toList == y.u.toList) = _ := q1
        have f0 : (x.p.toList == y.p.toList) = _ := q0
        have hb0 : sameBd x y = false := by simp [sameBd, q0, q1]
        have HB0 := Lib.hid hb0
        clear q0 q1 hb0
        go_region
        all_goals
          have HFF := Lib.hid (show F = false by rw [HS.out, HB0.out]; simp)
          go_wp2_with fail
          go_ret
          exact ⟨ret_bool HFF.out.symm, kd⟩
      have f0 : (x.p.toList == y.p.toList) = _ := q0
      have f1 : (x.u.toList == y.u.toList) = _ := q1
      have hb0 : sameBd x y = true := by simp [sameBd, q0, q1]
      have HB0 := Lib.hid hb0
      clear q0 q1 hb0
      go_region
      all_goals
        go_wp2_with fail
        go_roundw
        case rel => exact ⟨j + 1, hlt, by go_num, kd, by unfold Hid; rw [HS.out, HB0.out, Bool.true_and]⟩
        case measure =>
          simp [intOf]
          omega
    · obtain rfl : j = n := by omega
      have hs := HI.out
      rw [@List.drop_eq_nil_of_le _ l j (by have := HL.out.1; omega), @List.drop_eq_nil_of_le _ l' j (by have := HL.out.2; omega)] at hs
      have HFF : Hid (F = true) := hs
      clear hs
      go_wp2_with fail
      go_ret
      exact ⟨ret_bool HFF.out.symm, hkept⟩
set_option maxHeartbeats 4000000 in
theorem eqAtts_any (A : Option Addr) (n c : Nat) (l : List Att) (A' : Option Addr) (n' c' : Nat) (l' : List Att) (w : World) (h : Sl w 5 A n c (l.flatMap Att.cells)) (h' : Sl w 5 A' n' c' (l'.flatMap Att.cells)) :
    Calls Try.prog 31 #[.slice A n c, .slice A' n' c'] w fun e w' => e = .returned (.bool (sameAtts l l')) ∧ Kept w w' := by
  have hl := h.llen (enc := Att.cells) (fun _ => rfl) (by omega)
  have hl' := h'.llen (enc := Att.cells) (fun _ => rfl) (by omega)
  have m1 := h.max
  have m2 := h.cap
  have m3 := h'.cap
  obtain ⟨F, hF⟩ : ∃ F, sameAtts l l' = F := ⟨_, rfl⟩
  rw [hF]
  have HF := Lib.hid hF
  have HL := Lib.hid (show _ ∧ _ from ⟨hl, hl'⟩)
  clear hF hl hl'
  by_cases e : n = n'
  rotate_left
  · have i1 : ¬ (n : Int) = n' := by omega
    have hf : F = false := by rw [← HF.out, sameAtts_len (by rw [HL.out.1, HL.out.2]; exact e)]
    have HFF := Lib.hid hf
    clear hf
    go_enter Try.func31, Try.ntmps31
    go_wp2_with fail
    go_ret
    exact ⟨ret_bool HFF.out.symm, Kept.refl w⟩
  subst e
  go_enter Try.func31, Try.ntmps31
  go_wp2_with fail
  go_loopw [13] (fun i wr => ∃ j : Nat, j ≤ n ∧ i = .int .i64 j ∧ Kept w wr ∧ Hid (F = sameAtts (l.drop j) (l'.drop j))) (fun i _ => n - (intOf i).toNat)
  case atStart => exact ⟨0, Nat.zero_le _, rfl, Kept.refl _, HF.out.symm⟩
  case round =>
    obtain ⟨j, hj, rfl, hkept, HI⟩ := hrel
    by_cases hlt : j < n
    · obtain ⟨pb, po, x, rfl, hx, hxc, hxb⟩ := (h.kept hkept).elemb (enc := Att.cells) (fun _ => rfl) (by omega) hlt
      obtain ⟨qb, qo, y, rfl, hy, hyc, hyb⟩ := (h'.kept hkept).elemb (enc := Att.cells) (fun _ => rfl) (by omega) hlt
      have x0 : wr.cell? ⟨pb, po + j * 5, none⟩ = some (.string x.n.u) := hxc 0 _ rfl
      have y0 : wr.cell? ⟨qb, qo + j * 5, none⟩ = some (.string y.n.u) := hyc 0 _ rfl
      have x1 : wr.cell? ⟨pb, po + j * 5 + 1, none⟩ = some (.string x.n.l) := hxc 1 _ rfl
      have y1 : wr.cell? ⟨qb, qo + j * 5 + 1, none⟩ = some (.string y.n.l) := hyc 1 _ rfl
      have x2 : wr.cell? ⟨pb, po + j * 5 + 2, none⟩ = some (.string x.n.p) := hxc 2 _ rfl
      have y2 : wr.cell? ⟨qb, qo + j * 5 + 2, none⟩ = some (.string y.n.p) := hyc 2 _ rfl
      have x3 : wr.cell? ⟨pb, po + j * 5 + 3, none⟩ = some (.string x.v) := hxc 3 _ rfl
      have y3 : wr.cell? ⟨qb, qo + j * 5 + 3, none⟩ = some (.string y.v) := hyc 3 _ rfl
      have x4 : wr.cell? ⟨pb, po + j * 5 + 4, none⟩ = some (.bool x.h) := hxc 4 _ rfl
      have y4 : wr.cell? ⟨qb, qo + j * 5 + 4, none⟩ = some (.bool y.h) := hyc 4 _ rfl
      have hs := HI.out
      rw [sameAtts_step hx hy] at hs
      have HS := Lib.hid hs
      have l1 : (j : Int) < n := by omega
      have kd : Kept w wr.drew := hkept.drew
      clear hs hxc hyc hx hy
      go_upto_region 6 with fail
      cases q0 : eqS x.n.u y.n.u
      · have f0 : (x.n.u.toList == y.n.u.toList) = _ := q0
        have hb0 : sameAtt x y = false := by simp [sameAtt, sameNm, q0]
        have HB0 := Lib.hid hb0
        clear q0 hb0
        go_region
        all_goals
          have HFF := Lib.hid (show F = false by rw [HS.out, HB0.out]; simp)
          go_wp2_with fail
          go_ret
          exact ⟨ret_bool HFF.out.symm, kd⟩
      cases q1 : eqS x.n.l y.n.l
      · have f1 : (x.n.l.toList == y.n.l.toList) = _ := q1
        have f0 : (x.n.u.toList == y.n.u.toList) = _ := q0
        have hb0 : sameAtt x y = false := by simp [sameAtt, sameNm, q0, q1]
        have HB0 := Lib.hid hb0
        clear q0 q1 hb0
        go_region
        all_goals
          have HFF := Lib.hid (show F = false by rw [HS.out, HB0.out]; simp)
          go_wp2_with fail
          go_ret
          exact ⟨ret_bool HFF.out.symm, kd⟩
      cases q2 : eqS x.n.p y.n.p
      · have f2 : (x.n.p.toList == y.n.p.toList) = _ := q2
        have f0 : (x.n.u.toList == y.n.u.toList) = _ := q0
        have f1 : (x.n.l.toList == y.n.l.toList) = _ := q1
        have hb0 : sameAtt x y = false := by simp [sameAtt, sameNm, q0, q1, q2]
        have HB0 := Lib.hid hb0
        clear q0 q1 q2 hb0
        go_region
        all_goals
          have HFF := Lib.hid (show F = false by rw [HS.out, HB0.out]; simp)
          go_wp2_with fail
          go_ret
          exact ⟨ret_bool HFF.out.symm, kd⟩
      cases q3 : eqS x.v y.v
      · have f3 : (x.v.toList == y.v.toList) = _ := q3
        have f0 : (x.n.u.toList == y.n.u.toList) = _ := q0
        have f1 : (x.n.l.toList == y.n.l.toList) = _ := q1
        have f2 : (x.n.p.toList == y.n.p.toList) = _ := q2
        have hb0 : sameAtt x y = false := by simp [sameAtt, sameNm, q0, q1, q2, q3]
        have HB0 := Lib.hid hb0
        clear q0 q1 q2 q3 hb0
        go_region
        all_goals
          have HFF := Lib.hid (show F = false by rw [HS.out, HB0.out]; simp)
          go_wp2_with fail
          go_ret
          exact ⟨ret_bool HFF.out.symm, kd⟩
      cases q4 : (x.h == y.h)
      · have f4 : (x.h == y.h) = false := q4
        have f4' : ¬ x.h = y.h := by simpa using q4
        have f0 : (x.n.u.toList == y.n.u.toList) = _ := q0
        have f1 : (x.n.l.toList == y.n.l.toList) = _ := q1
        have f2 : (x.n.p.toList == y.n.p.toList) = _ := q2
        have f3 : (x.v.toList == y.v.toList) = _ := q3
        have hb0 : sameAtt x y = false := by simp [sameAtt, sameNm, q0, q1, q2, q3, q4]
        have HB0 := Lib.hid hb0
        clear q0 q1 q2 q3 q4 hb0
        go_region
        all_goals
          have HFF := Lib.hid (show F = false by rw [HS.out, HB0.out]; simp)
          go_wp2_with fail
          go_ret
          exact ⟨ret_bool HFF.out.symm, kd⟩
      have f0 : (x.n.u.toList == y.n.u.toList) = _ := q0
      have f1 : (x.n.l.toList == y.n.l.toList) = _ := q1
      have f2 : (x.n.p.toList == y.n.p.toList) = _ := q2
      have f3 : (x.v.toList == y.v.toList) = _ := q3
      have f4 : (x.h == y.h) = true := q4
      have f4' : x.h = y.h := by simpa using q4
      have hb0 : sameAtt x y = true := by simp [sameAtt, sameNm, q0, q1, q2, q3, q4]
      have HB0 := Lib.hid hb0
      clear q0 q1 q2 q3 q4 hb0
      go_region
      all_goals
        go_wp2_with fail
        go_roundw
        case rel => exact ⟨j + 1, hlt, by go_num, kd, by unfold Hid; rw [HS.out, HB0.out, Bool.true_and]⟩
        case measure =>
          simp [intOf]
          omega
    · obtain rfl : j = n := by omega
      have hs := HI.out
      rw [@List.drop_eq_nil_of_le _ l j (by have := HL.out.1; omega), @List.drop_eq_nil_of_le _ l' j (by have := HL.out.2; omega)] at hs
      have HFF : Hid (F = true) := hs
      clear hs
      go_wp2_with fail
      go_ret
      exact ⟨ret_bool HFF.out.symm, hkept⟩
/-- Two rows of trees, one by one. -/
def eqL (R : Tr → Tr → Bool) : List Tr → List Tr → Bool
  | [], [] => true
  | x :: xs, y :: ys => R x y && eqL R xs ys
  | _, _ => false
theorem eqL_len {R : Tr → Tr → Bool} : ∀ {l l' : List Tr}, l.length ≠ l'.length → eqL R l l' = false
  | [], [], h => absurd rfl h
  | [], _ :: _, _ => rfl
  | _ :: _, [], _ => rfl
  | x :: xs, y :: ys, h => by
    rw [eqL, eqL_len (by simpa using h), Bool.and_false]
theorem eqL_step {R : Tr → Tr → Bool} {l l' : List Tr} {k : Nat} {x y : Tr} (hx : l[k]? = some x) (hy : l'[k]? = some y) : eqL R (l.drop k) (l'.drop k) = (R x y && eqL R (l.drop (k + 1)) (l'.drop (k + 1))) := by
  have h1 := (List.getElem?_eq_some_iff.1 hx)
  have h2 := (List.getElem?_eq_some_iff.1 hy)
  rw [List.drop_eq_getElem_cons h1.1, List.drop_eq_getElem_cons h2.1, h1.2, h2.2]
  rfl
theorem eqL_same : ∀ l l' : List Tr, eqL sameT l l' = sameL l l'
  | [], [] => rfl
  | [], _ :: _ => rfl
  | _ :: _, [] => rfl
  | x :: xs, y :: ys => by rw [eqL, sameL, eqL_same xs ys]
theorem fn_enters {P : Program} {f : FuncId} {fn : Func} (hf : P.funcs[f]? = some fn) (hname : (fn.name == "runtime.NumGoroutine") = false) (hb : fn.body.isSome = true) (args : Array Value) (w : World) :
    (callFunc f args).run P w = .ok (.enter f args) w := by
  have h1 : fn.name ≠ "runtime.NumGoroutine" := by simpa using hname
  obtain ⟨c, hc⟩ := Option.isSome_iff_exists.1 hb
  simp [callFunc, hf, h1, hc]
set_option maxHeartbeats 4000000 in
theorem eqFunc_any (FN : Nat) (R : Tr → Tr → Bool) (hE : ∀ (args : Array Value) (w : World), (callFunc FN args).run Try.prog w = .ok (.enter FN args) w) (A : Option Addr) (n c : Nat) (l : List Nd) (A' : Option Addr) (n' c' : Nat) (l' : List Nd) (w : World) (h : Nds w A n c l) (h' : Nds w A' n' c' l')
    (hF : ∀ x ∈ l, ∀ y ∈ l', ∀ w', Kept w w' → Calls Try.prog FN #[x.val, y.val] w' fun e w'' => e = .returned (.bool (R x.tr y.tr)) ∧ Kept w' w'') :
    Calls Try.prog 32 #[.slice A n c, .slice A' n' c', .func (.func FN) #[] #[]] w fun e w' => e = .returned (.bool (eqL R (l.map Nd.tr) (l'.map Nd.tr))) ∧ Kept w w' := by
  have hl := h.len
  have hl' := h'.len
  have m1 := h.1.max
  have m2 := h.1.cap
  have m3 := h'.1.cap
  obtain ⟨F, hFv⟩ : ∃ F, eqL R (l.map Nd.tr) (l'.map Nd.tr) = F := ⟨_, rfl⟩
  rw [hFv]
  have HF := Lib.hid hFv
  have HL := Lib.hid (show _ ∧ _ from ⟨hl, hl'⟩)
  have HFN := Lib.hid hF
  clear hFv hl hl' hF
  by_cases e : n = n'
  rotate_left
  · have i1 : ¬ (n : Int) = n' := by omega
    have hf : F = false := by rw [← HF.out, eqL_len (by rw [List.length_map, List.length_map, HL.out.1, HL.out.2]; exact e)]
    have HFF := Lib.hid hf
    clear hf
    go_enter Try.func32, Try.ntmps32
    go_wp2_with fail
    go_ret
    exact ⟨ret_bool HFF.out.symm, Kept.refl w⟩
  subst e
  go_enter Try.func32, Try.ntmps32
  go_wp2_with fail
  go_loopw [17] (fun i wr => ∃ j : Nat, j ≤ n ∧ i = .int .i64 j ∧ Kept w wr ∧ Hid (F = eqL R ((l.map Nd.tr).drop j) ((l'.map Nd.tr).drop j))) (fun i _ => n - (intOf i).toNat)
  case atStart => exact ⟨0, Nat.zero_le _, rfl, Kept.refl _, HF.out.symm⟩
  case round =>
    obtain ⟨j, hj, rfl, hkept, HI⟩ := hrel
    by_cases hlt : j < n
    · obtain ⟨pb, po, xk, xn, xbA, xbn, xbc, xbs, xaA, xan, xac, xal, xt, xg, xkA, xkn, xkc, xks, rfl, hx, x0, x1, x2, x3, x4, x5, x6, x7, x8, hxb⟩ := cells9 (h.1.kept hkept) hlt
      obtain ⟨qb, qo, yk, yn, ybA, ybn, ybc, ybs, yaA, yan, yac, yal, yt, yg, ykA, ykn, ykc, yks, rfl, hy, y0, y1, y2, y3, y4, y5, y6, y7, y8, hyb⟩ := cells9 (h'.1.kept hkept) hlt
      have hs := HI.out
      rw [eqL_step (map_get (f := Nd.tr) hx) (map_get (f := Nd.tr) hy)] at hs
      have hih := fun w' (kk : Kept wr w') => HFN.out _ (List.mem_of_getElem? hx) _ (List.mem_of_getElem? hy) w' (hkept.trans kk)
      obtain ⟨z, hz⟩ : ∃ z, R (Nd.mk xk xn xbA xbn xbc xbs xaA xan xac xal xt xg xkA xkn xkc xks).tr (Nd.mk yk yn ybA ybn ybc ybs yaA yan yac yal yt yg ykA ykn ykc yks).tr = z := ⟨_, rfl⟩
      rw [hz] at hs hih
      have HS := Lib.hid hs
      have HW : Hid (∀ w', Kept wr w' → Calls Try.prog FN #[.agg #[.int .i64 xk, .string xn.u, .string xn.l, .string xn.p, .slice xbA xbn xbc, .slice xaA xan xac, .string xt, .string xg, .slice xkA xkn xkc], .agg #[.int .i64 yk, .string yn.u, .string yn.l, .string yn.p, .slice ybA ybn ybc, .slice yaA yan yac, .string yt, .string yg, .slice ykA ykn ykc]] w' fun e w'' => e = .returned (.bool z) ∧ Kept w' w'') := fun w' kk => hih w' kk
      have l1 : (j : Int) < n := by omega
      clear hs hx hy hz hih
      have kk2 : Kept wr ((wr.alloc (.cells (ndc xk xn xbA xbn xbc xaA xan xac xt xg xkA xkn xkc) 36)).alloc (.cells (ndc yk yn ybA ybn ybc yaA yan yac yt yg ykA ykn ykc) 36)) := ((Kept.refl wr).alloc _).alloc _
      go_wp2_with fail
      refine (HW.out _ kk2).mono ?_
      rintro e w5 ⟨rfl, hk5⟩
      have kd : Kept w w5 := hkept.trans (kk2.trans hk5)
      clear hk5 kk2
      cases z
      · have HFF := Lib.hid (show F = false by rw [HS.out]; simp)
        go_wp2_with fail
        go_ret
        exact ⟨ret_bool HFF.out.symm, kd⟩
      · go_wp2_with fail
        go_roundw
        case rel => exact ⟨j + 1, hlt, by go_num, kd, by unfold Hid; rw [HS.out, Bool.true_and]⟩
        case measure =>
          simp [intOf]
          omega
    · obtain rfl : j = n := by omega
      have hs := HI.out
      rw [@List.drop_eq_nil_of_le _ (l.map Nd.tr) j (by have := HL.out.1; rw [List.length_map]; omega), @List.drop_eq_nil_of_le _ (l'.map Nd.tr) j (by have := HL.out.2; rw [List.length_map]; omega)] at hs
      have HFF : Hid (F = true) := hs
      clear hs
      go_wp2_with fail
      go_ret
      exact ⟨ret_bool HFF.out.symm, hkept⟩
end Go.Proofs.Ytnlncamiaddhfaa
