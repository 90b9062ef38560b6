/- A line's step: form, step, walked (printed by wip/gen/gen_scri.py). -/
import Derived.Test.YtmcmicgdkdbgjaaDoorScrH
namespace Go.Proofs.YtmcmicgdkdbgjaaDoor
open Go.RowKit
attribute [local go_sem ↓] Go.wp_at_zero Go.wp_at_succ

def wordOf (k : Nat) : Bs := wordsL.getD k []
def signOf (k : Nat) : Bs := signsL.getD k []
theorem form_any (k : Nat) (h1 : 1 ≤ k) (h9 : k ≤ 9) (w : World) : Calls Tryd.prog 32 #[.int .i64 (k : Int)] w fun e w' => e = .returned (.tuple #[.string (strB (wordOf k)), .string (strB (signOf k))]) ∧ w = w' := by
  have hc : k = 1 ∨ k = 2 ∨ k = 3 ∨ k = 4 ∨ k = 5 ∨ k = 6 ∨ k = 7 ∨ k = 8 ∨ k = 9 := by omega
  rcases hc with rfl | rfl | rfl | rfl | rfl | rfl | rfl | rfl | rfl
  · have h : Calls Tryd.prog 32 #[.int .i64 1] w fun e w' => e = .returned (.tuple #[.string ⟨#[100, 101, 108, 101, 116, 101]⟩, .string ⟨#[112]⟩]) ∧ w = w' := by
      go_enter Tryd.func32, Tryd.ntmps32
      go_wp2_with fail
      go_ret2
      exact ⟨rfl, rfl⟩
    exact h
  · have h : Calls Tryd.prog 32 #[.int .i64 2] w fun e w' => e = .returned (.tuple #[.string ⟨#[105, 110, 115, 101, 114, 116]⟩, .string ⟨#[112, 110, 116]⟩]) ∧ w = w' := by
      go_enter Tryd.func32, Tryd.ntmps32
      go_wp2_with fail
      go_ret2
      exact ⟨rfl, rfl⟩
    exact h
  · have h : Calls Tryd.prog 32 #[.int .i64 3] w fun e w' => e = .returned (.tuple #[.string ⟨#[114, 101, 112, 108, 97, 99, 101]⟩, .string ⟨#[112, 116]⟩]) ∧ w = w' := by
      go_enter Tryd.func32, Tryd.ntmps32
      go_wp2_with fail
      go_ret2
      exact ⟨rfl, rfl⟩
    exact h
  · have h : Calls Tryd.prog 32 #[.int .i64 4] w fun e w' => e = .returned (.tuple #[.string ⟨#[116, 101, 120, 116]⟩, .string ⟨#[112, 116]⟩]) ∧ w = w' := by
      go_enter Tryd.func32, Tryd.ntmps32
      go_wp2_with fail
      go_ret2
      exact ⟨rfl, rfl⟩
    exact h
  · have h : Calls Tryd.prog 32 #[.int .i64 5] w fun e w' => e = .returned (.tuple #[.string ⟨#[115, 101, 116]⟩, .string ⟨#[112, 97, 116]⟩]) ∧ w = w' := by
      go_enter Tryd.func32, Tryd.ntmps32
      go_wp2_with fail
      go_ret2
      exact ⟨rfl, rfl⟩
    exact h
  · have h : Calls Tryd.prog 32 #[.int .i64 6] w fun e w' => e = .returned (.tuple #[.string ⟨#[100, 114, 111, 112]⟩, .string ⟨#[112, 97]⟩]) ∧ w = w' := by
      go_enter Tryd.func32, Tryd.ntmps32
      go_wp2_with fail
      go_ret2
      exact ⟨rfl, rfl⟩
    exact h
  · have h : Calls Tryd.prog 32 #[.int .i64 7] w fun e w' => e = .returned (.tuple #[.string ⟨#[119, 114, 97, 112]⟩, .string ⟨#[112, 97]⟩]) ∧ w = w' := by
      go_enter Tryd.func32, Tryd.ntmps32
      go_wp2_with fail
      go_ret2
      exact ⟨rfl, rfl⟩
    exact h
  · have h : Calls Tryd.prog 32 #[.int .i64 8] w fun e w' => e = .returned (.tuple #[.string ⟨#[117, 110, 119, 114, 97, 112]⟩, .string ⟨#[112]⟩]) ∧ w = w' := by
      go_enter Tryd.func32, Tryd.ntmps32
      go_wp2_with fail
      go_ret2
      exact ⟨rfl, rfl⟩
    exact h
  · have h : Calls Tryd.prog 32 #[.int .i64 9] w fun e w' => e = .returned (.tuple #[.string ⟨#[109, 111, 118, 101]⟩, .string ⟨#[112, 113, 110]⟩]) ∧ w = w' := by
      go_enter Tryd.func32, Tryd.ntmps32
      go_wp2_with fail
      go_ret2
      exact ⟨rfl, rfl⟩
    exact h
theorem sign_ok (k : Nat) (h9 : k ≤ 9) : (signOf k).all signB = true ∧ (signOf k).length ≤ 10 := by
  have h : ∀ k : Fin 10, (signOf k.val).all signB = true ∧ (signOf k.val).length ≤ 10 := by decide
  exact h ⟨k, by omega⟩
theorem kind_hit (k : Nat) (h1 : 1 ≤ k) (h9 : k ≤ 9) : kindF (wordOf k) = k := by
  have h : ∀ k : Fin 10, 1 ≤ k.val → kindF (wordOf k.val) = k.val := by decide
  exact h ⟨k, by omega⟩ h1
theorem kind_miss (w : Bs) (h : ∀ j, 1 ≤ j → j ≤ 9 → wordOf j ≠ w) : kindF w = 0 := by
  unfold kindF
  by_cases h0 : w = []
  · rw [if_pos h0]
  · rw [if_neg h0]
    have hn : wordsL.findIdx? (· == w) = none := by
      rw [List.findIdx?_eq_none_iff]
      intro x hx
      obtain ⟨j, hj, he⟩ := List.mem_iff_getElem.1 hx
      have hj10 : j < 10 := hj
      have hw : wordOf j = x := by
        unfold wordOf
        rw [List.getD_eq_getElem?_getD, List.getElem?_eq_getElem hj]
        exact he
      rcases Nat.eq_zero_or_pos j with hz | hz
      · subst hz
        have : x = [] := hw.symm
        rw [this]
        cases w with
        | nil => exact absurd rfl h0
        | cons _ _ => rfl
      · have := h j hz (by omega)
        rw [hw] at this
        simpa using this
    rw [hn]
/-- What a line's step gives. -/
def StepOf (r : Option St) (w : World) (e : Ending) (w' : World) : Prop := Kept w w' ∧ ∃ ov : Ov, match r with
  | none => e = .returned (.tuple #[ov.val, .bool false])
  | some s => e = .returned (.tuple #[ov.val, .bool true]) ∧ ov.st = s ∧ ov.ok w' ∧ ov.far (fun b => w.heap.size ≤ b)
theorem step_eq (l : Bs) (k : Nat) (hk : 1 ≤ k) (h : kindF (l.take (toBlank l)) = k) : stepF l = match fieldsF (Ov.nil k).st (signOf k) (l.drop (toBlank l)) with
  | some (o, []) => some o
  | _ => none := by
  unfold stepF
  rw [h]
  dsimp only
  rw [if_neg (by omega)]
  rfl
theorem step_no (l : Bs) (h : kindF (l.take (toBlank l)) = 0) : stepF l = none := by
  unfold stepF
  rw [h]
  rfl
theorem FieldsOf.split {g : Nat} {w w' : World} {e : Ending} {z : Option (St × Bs)} (h : FieldsOf g w z e w') : w.grownBy w' (some g) ∧ ((∃ (st : St) (ov : Ov), z = some (st, []) ∧ e = .returned (.tuple #[ov.val, .bool true]) ∧ ov.st = st ∧ ov.ok w' ∧ ov.far (fun b => w.heap.size ≤ b)) ∨ ((∀ st, z ≠ some (st, [])) ∧ ∃ ov : Ov, e = .returned (.tuple #[ov.val, .bool false]))) := by
  obtain ⟨h1, ov, h2⟩ := h
  refine ⟨h1, ?_⟩
  match z, h2 with
  | none, h2 => exact .inr ⟨fun _ e => by (cases e), ov, h2⟩
  | some (st, []), h2 => exact .inl ⟨st, ov, rfl, h2⟩
  | some (st, b :: l), h2 => exact .inr ⟨fun _ e => by (cases e), ov, h2⟩
theorem step_hit {l : Bs} {k : Nat} {st : St} (hk : 1 ≤ k) (h : kindF (l.take (toBlank l)) = k) (hz : fieldsF (Ov.nil k).st (signOf k) (l.drop (toBlank l)) = some (st, [])) : stepF l = some st := by
  rw [step_eq l k hk h, hz]
theorem step_out {l : Bs} {k : Nat} (hk : 1 ≤ k) (h : kindF (l.take (toBlank l)) = k) (hz : ∀ st, fieldsF (Ov.nil k).st (signOf k) (l.drop (toBlank l)) ≠ some (st, [])) : stepF l = none := by
  rw [step_eq l k hk h]
  generalize fieldsF (Ov.nil k).st (signOf k) (l.drop (toBlank l)) = z at hz
  match z, hz with
  | none, _ => rfl
  | some (st, []), hz => exact absurd rfl (hz st)
  | some (_, _ :: _), _ => rfl
def ovSet (w2 : World) (gr : Nat) (o : Ov) : World := opSet w2 gr o
theorem op_set {w w2 w' : World} {gr : Nat} {o : Ov} (hb : Blk w2 gr (Ov.nil 0).cells 37) (hk : Kept w w2) (hgr : w.heap.size ≤ gr) (hw : w' = opSet w2 gr o) : Blk w' gr o.cells 37 ∧ Kept w w' ∧ w2.grownBy w' (some gr) := by
  subst hw
  have k0 := grown_setCell w2 ⟨gr, 0, none⟩ (.int .i64 (o.k : Int))
  have k1 := k0.trans (grown_setCell _ ⟨gr, 1, none⟩ (.slice o.A o.p.length o.c))
  have k2 := k1.trans (grown_setCell _ ⟨gr, 2, none⟩ (.slice o.B o.q.length o.d))
  have k3 := k2.trans (grown_setCell _ ⟨gr, 3, none⟩ (.int .i64 (o.n : Int)))
  have k4 := k3.trans (grown_setCell _ ⟨gr, 4, none⟩ (.string (strB o.a)))
  have k5 : w2.grownBy (opSet w2 gr o) (some gr) := k4.trans (grown_setCell _ ⟨gr, 5, none⟩ (.string (strB o.t)))
  exact ⟨(((((hb.set 0 _).set 1 _).set 2 _).set 3 _).set 4 _).set 5 _, hk.grown k5 (fun k e => by injection e with e; omega), k5⟩
set_option maxRecDepth 100000 in
set_option maxHeartbeats 8000000 in
theorem step_any (s : ByteArray) (w : World) (hs : s.size ≤ 1000000) : Calls Tryd.prog 25 #[.string s] w fun e w' => StepOf (stepF s.toList) w e w' := by
  obtain ⟨r, hr⟩ : ∃ r, stepF s.toList = r := ⟨_, rfl⟩
  rw [hr]
  have HR := Lib.hid hr
  clear hr
  have hk : Kept w ((w.alloc (.cells #[.int .i64 0, .slice none 0 0, .slice none 0 0, .int .i64 0, .string ⟨#[]⟩, .string ⟨#[]⟩] 37)).alloc (.cells #[.string s] 82)) := ((Kept.refl w).alloc _).alloc _
  have hb : Blk ((w.alloc (.cells #[.int .i64 0, .slice none 0 0, .slice none 0 0, .int .i64 0, .string ⟨#[]⟩, .string ⟨#[]⟩] 37)).alloc (.cells #[.string s] 82)) w.heap.size (Ov.nil 0).cells 37 := (Blk.new w _ _).alloc _
  have hd : Rd ((w.alloc (.cells #[.int .i64 0, .slice none 0 0, .slice none 0 0, .int .i64 0, .string ⟨#[]⟩, .string ⟨#[]⟩] 37)).alloc (.cells #[.string s] 82)) (w.heap.size + 1) s := by
    have := Blk.new (w.alloc (.cells #[.int .i64 0, .slice none 0 0, .slice none 0 0, .int .i64 0, .string ⟨#[]⟩, .string ⟨#[]⟩] 37)) #[.string s] 82
    have e : (w.alloc (.cells #[.int .i64 0, .slice none 0 0, .slice none 0 0, .int .i64 0, .string ⟨#[]⟩, .string ⟨#[]⟩] 37)).heap.size = w.heap.size + 1 := by simp
    rw [e] at this
    exact this
  go_enter Tryd.func25, Tryd.ntmps25
  go_upto_region 2 with fail
  generalize (w.alloc (.cells #[.int .i64 0, .slice none 0 0, .slice none 0 0, .int .i64 0, .string ⟨#[]⟩, .string ⟨#[]⟩] 37)).alloc (.cells #[.string s] 82) = w1 at hk hb hd ⊢
  obtain ⟨g, hg⟩ : ∃ g, w.heap.size + 1 = g := ⟨_, rfl⟩
  obtain ⟨gr, hgr⟩ : ∃ gr, w.heap.size = gr := ⟨_, rfl⟩
  have HG : Hid (w.heap.size ≤ g ∧ w.heap.size ≤ gr ∧ g ≠ gr) := ⟨by omega, by omega, by omega⟩
  rw [hgr] at hb
  rw [hg] at hd
  rw [hg, hgr]
  clear hg hgr
  have HC := Lib.hid (part_any g s w1 hd hs)
  clear hd
  go_wp2_with fail
  refine HC.out.mono ?_
  rintro e w2 ⟨P, X', rfl, hP, hX', hr2, g2⟩
  have hk2 : Kept w w2 := hk.grown g2 (fun k e => by injection e with e; have := HG.out.1; omega)
  have hb2 := hb.grown g2 (fun e => HG.out.2.2 (Option.some.inj e).symm)
  have hXs : X'.size ≤ 1000000 := by
    have := congrArg List.length hX'
    rw [bytes_len, List.length_drop, bytes_len] at this
    omega
  have HP := Lib.hid hP
  have HX := Lib.hid hX'
  have HR2 := Lib.hid hr2
  clear hP hX' hk hb HC hr2 g2
  go_wp2_with fail
  go_loopw [6] (fun v wr => ∃ k : Nat, 1 ≤ k ∧ k ≤ 10 ∧ v = .int .i64 k ∧ Hid (∀ j, 1 ≤ j → j < k → wordOf j ≠ P.toList) ∧ w2 = wr) (fun v _ => 10 - (intOf v).toNat)
  case atStart => exact ⟨1, Nat.le_refl _, by omega, rfl, fun j h1 h2 => by omega, rfl⟩
  case round =>
    obtain ⟨k, hk1, hk10, rfl, HM, rfl⟩ := hrel
    by_cases h9 : k ≤ 9
    · have l1 : (k : Int) ≤ 9 := by omega
      have s1 : IntKind.i64.wrap ((k : Int) + 1) = (k : Int) + 1 := IntWalk.i64_in _ (by omega)
      have HFm := Lib.hid (form_any k hk1 h9 w2)
      by_cases he : wordOf k = P.toList
      · have hkd : kindF (s.toList.take (toBlank s.toList)) = k := by rw [← HP.out, ← he]; exact kind_hit k hk1 h9
        have hfi := fields_any g k (signOf k) X' w2 HR2.out hXs (sign_ok k h9).1 (sign_ok k h9).2
        rw [HX.out] at hfi
        have HFI := Lib.hid hfi
        have HKD := Lib.hid hkd
        have e0 : (strB (wordOf k)).toList = P.toList := by rw [strB_list, he]
        generalize strB (wordOf k) = W at HFm e0
        have e1 : (W.toList == P.toList) = true := by rw [e0]; simp
        clear hfi hkd e0 he HM
        go_wp2_with fail
        refine HFm.out.mono ?_
        rintro e w2' ⟨rfl, rfl⟩
        go_wp2_with fail
        refine HFI.out.mono ?_
        intro e w3 hF
        obtain ⟨g3, hF⟩ := hF.split
        rcases hF with ⟨st, ov, hz, he, hst, hok, hfar⟩ | ⟨hz, ov, he⟩
        · have HE := Lib.hid he
          have HST := Lib.hid hst
          have HOK := Lib.hid hok
          have HFR := Lib.hid hfar
          have HZ : Hid (r = some st) := by rw [← HR.out]; exact step_hit hk1 HKD.out hz
          have HGR : Hid (gr < w2.heap.size) := hb2.lt
          have HKS : Hid (w.heap.size ≤ w2.heap.size) := hk2.size
          clear he hst hok hfar hz HFI HFm
          obtain ⟨ok, oA, oc, op, oB, od, oq, on, oa, ot⟩ := ov
          have HV : Hid (Ov.val ⟨ok, oA, oc, op, oB, od, oq, on, oa, ot⟩ = .agg #[.int .i64 (ok : Int), .slice oA op.length oc, .slice oB oq.length od, .int .i64 (on : Int), .string (strB oa), .string (strB ot)]) := rfl
          rw [HV.out] at HE
          have hb3 := hb2.grown g3 (fun e => HG.out.2.2 (Option.some.inj e).symm)
          have hk3 := hk2.grown g3 (fun k e => by injection e with e; have := HG.out.1; omega)
          have fr := Blk.frozen hb3
          have bz := Blk.cell hb3
          have z0 : w3.cell? ⟨gr, 0, none⟩ = some (.int .i64 0) := bz 0
          have z1 : w3.cell? ⟨gr, 1, none⟩ = some (.slice none 0 0) := bz 1
          have z2 : w3.cell? ⟨gr, 2, none⟩ = some (.slice none 0 0) := bz 2
          have z3 : w3.cell? ⟨gr, 3, none⟩ = some (.int .i64 0) := bz 3
          have z4 : w3.cell? ⟨gr, 4, none⟩ = some (.string ⟨#[]⟩) := bz 4
          have z5 : w3.cell? ⟨gr, 5, none⟩ = some (.string ⟨#[]⟩) := bz 5
          have HS := Lib.hid (fun w' hw => op_set (o := ⟨ok, oA, oc, op, oB, od, oq, on, oa, ot⟩) (w' := w') hb3 hk3 HG.out.2.1 hw)
          have he := HE.out
          clear HE
          subst he
          clear bz hb3 hk3
          go_wp2_with fail
          refine body_named ?_
          intro w4 hw4
          obtain ⟨b4, k4, g4⟩ := HS.out w4 hw4
          have bz := Blk.cell b4
          have y0 : w4.cell? ⟨gr, 0, none⟩ = some (.int .i64 (ok : Int)) := bz 0
          have y1 : w4.cell? ⟨gr, 1, none⟩ = some (.slice oA op.length oc) := bz 1
          have y2 : w4.cell? ⟨gr, 2, none⟩ = some (.slice oB oq.length od) := bz 2
          have y3 : w4.cell? ⟨gr, 3, none⟩ = some (.int .i64 (on : Int)) := bz 3
          have y4 : w4.cell? ⟨gr, 4, none⟩ = some (.string (strB oa)) := bz 4
          have y5 : w4.cell? ⟨gr, 5, none⟩ = some (.string (strB ot)) := bz 5
          refine bodyPost_ret (v := .tuple #[.agg #[.int .i64 (ok : Int), .slice oA op.length oc, .slice oB oq.length od, .int .i64 (on : Int), .string (strB oa), .string (strB ot)], .bool true]) ?_ rfl ?_
          · simp [results, Tryd.results25, go_sem, y0, y1, y2, y3, y4, y5]
          · refine ⟨k4, ⟨ok, oA, oc, op, oB, od, oq, on, oa, ot⟩, ?_⟩
            rw [HZ.out]
            exact ⟨rfl, HST.out, ⟨HOK.out.1.grown g4 (fun b i e e2 => by have := HFR.out.1 b i e; have h2 := Option.some.inj e2; have := HGR.out; omega), HOK.out.2.grown g4 (fun b i e e2 => by have := HFR.out.2 b i e; have h2 := Option.some.inj e2; have := HGR.out; omega)⟩, ⟨fun b i e => Nat.le_trans HKS.out (HFR.out.1 b i e), fun b i e => Nat.le_trans HKS.out (HFR.out.2 b i e)⟩⟩
        · have HE := Lib.hid he
          have HZ : Hid (r = none) := by rw [← HR.out]; exact step_out hk1 HKD.out hz
          clear he hz HFI HFm
          obtain ⟨ok, oA, oc, op, oB, od, oq, on, oa, ot⟩ := ov
          have HV : Hid (Ov.val ⟨ok, oA, oc, op, oB, od, oq, on, oa, ot⟩ = .agg #[.int .i64 (ok : Int), .slice oA op.length oc, .slice oB oq.length od, .int .i64 (on : Int), .string (strB oa), .string (strB ot)]) := rfl
          rw [HV.out] at HE
          have hb3 := hb2.grown g3 (fun e => HG.out.2.2 (Option.some.inj e).symm)
          have hk3 := hk2.grown g3 (fun k e => by injection e with e; have := HG.out.1; omega)
          have fr := Blk.frozen hb3
          have bz := Blk.cell hb3
          have z0 : w3.cell? ⟨gr, 0, none⟩ = some (.int .i64 0) := bz 0
          have z1 : w3.cell? ⟨gr, 1, none⟩ = some (.slice none 0 0) := bz 1
          have z2 : w3.cell? ⟨gr, 2, none⟩ = some (.slice none 0 0) := bz 2
          have z3 : w3.cell? ⟨gr, 3, none⟩ = some (.int .i64 0) := bz 3
          have z4 : w3.cell? ⟨gr, 4, none⟩ = some (.string ⟨#[]⟩) := bz 4
          have z5 : w3.cell? ⟨gr, 5, none⟩ = some (.string ⟨#[]⟩) := bz 5
          have HS := Lib.hid (fun w' hw => op_set (o := ⟨ok, oA, oc, op, oB, od, oq, on, oa, ot⟩) (w' := w') hb3 hk3 HG.out.2.1 hw)
          have he := HE.out
          clear HE
          subst he
          clear bz hb3 hk3
          go_wp2_with fail
          refine body_named ?_
          intro w4 hw4
          obtain ⟨b4, k4, g4⟩ := HS.out w4 hw4
          have bz := Blk.cell b4
          have y0 : w4.cell? ⟨gr, 0, none⟩ = some (.int .i64 (ok : Int)) := bz 0
          have y1 : w4.cell? ⟨gr, 1, none⟩ = some (.slice oA op.length oc) := bz 1
          have y2 : w4.cell? ⟨gr, 2, none⟩ = some (.slice oB oq.length od) := bz 2
          have y3 : w4.cell? ⟨gr, 3, none⟩ = some (.int .i64 (on : Int)) := bz 3
          have y4 : w4.cell? ⟨gr, 4, none⟩ = some (.string (strB oa)) := bz 4
          have y5 : w4.cell? ⟨gr, 5, none⟩ = some (.string (strB ot)) := bz 5
          refine bodyPost_ret (v := .tuple #[.agg #[.int .i64 (ok : Int), .slice oA op.length oc, .slice oB oq.length od, .int .i64 (on : Int), .string (strB oa), .string (strB ot)], .bool false]) ?_ rfl ?_
          · simp [results, Tryd.results25, go_sem, y0, y1, y2, y3, y4, y5]
          · refine ⟨k4, ⟨ok, oA, oc, op, oB, od, oq, on, oa, ot⟩, ?_⟩
            rw [HZ.out]
            rfl
      · have e0 : (strB (wordOf k)).toList ≠ P.toList := by rw [strB_list]; exact he
        have HM2 : Hid (∀ j, 1 ≤ j → j < k + 1 → wordOf j ≠ P.toList) := by
          intro j h1 h2
          rcases Nat.lt_or_ge j k with h | h
          · exact HM.out j h1 h
          · have : j = k := by omega
            rw [this]
            exact he
        generalize strB (wordOf k) = W at HFm e0
        have e1 : (W.toList == P.toList) = false := by simpa using e0
        clear he e0
        go_wp2_with fail
        refine HFm.out.mono ?_
        rintro e w2' ⟨rfl, rfl⟩
        go_wp2_with fail
        go_roundw
        case rel => exact ⟨k + 1, by omega, by omega, by go_num, HM2, by trivial⟩
        case measure =>
          simp [intOf]
          omega
    · have l1 : ¬ (k : Int) ≤ 9 := by omega
      have HZ : Hid (r = none) := by
        rw [← HR.out]
        refine step_no _ (kind_miss _ fun j h1 h2 => ?_)
        rw [← HP.out]
        exact HM.out j h1 (by omega)
      have fr := Blk.frozen hb2
      have bz := Blk.cell hb2
      have z0 : w2.cell? ⟨gr, 0, none⟩ = some (.int .i64 0) := bz 0
      have z1 : w2.cell? ⟨gr, 1, none⟩ = some (.slice none 0 0) := bz 1
      have z2 : w2.cell? ⟨gr, 2, none⟩ = some (.slice none 0 0) := bz 2
      have z3 : w2.cell? ⟨gr, 3, none⟩ = some (.int .i64 0) := bz 3
      have z4 : w2.cell? ⟨gr, 4, none⟩ = some (.string ⟨#[]⟩) := bz 4
      have z5 : w2.cell? ⟨gr, 5, none⟩ = some (.string ⟨#[]⟩) := bz 5
      have HS := Lib.hid (fun w' hw => op_set (o := Ov.nil 0) (w' := w') hb2 hk2 HG.out.2.1 hw)
      clear bz hb2 hk2
      go_wp2_with fail
      refine body_named ?_
      intro w4 hw4
      obtain ⟨b4, k4, g4⟩ := HS.out w4 hw4
      have bz := Blk.cell b4
      have y0 : w4.cell? ⟨gr, 0, none⟩ = some (.int .i64 0) := bz 0
      have y1 : w4.cell? ⟨gr, 1, none⟩ = some (.slice none 0 0) := bz 1
      have y2 : w4.cell? ⟨gr, 2, none⟩ = some (.slice none 0 0) := bz 2
      have y3 : w4.cell? ⟨gr, 3, none⟩ = some (.int .i64 0) := bz 3
      have y4 : w4.cell? ⟨gr, 4, none⟩ = some (.string ⟨#[]⟩) := bz 4
      have y5 : w4.cell? ⟨gr, 5, none⟩ = some (.string ⟨#[]⟩) := bz 5
      refine bodyPost_ret (v := .tuple #[.agg #[.int .i64 0, .slice none 0 0, .slice none 0 0, .int .i64 0, .string ⟨#[]⟩, .string ⟨#[]⟩], .bool false]) ?_ rfl ?_
      · simp [results, Tryd.results25, go_sem, y0, y1, y2, y3, y4, y5]
      · refine ⟨k4, Ov.nil 0, ?_⟩
        rw [HZ.out]
        rfl
end Go.Proofs.YtmcmicgdkdbgjaaDoor
