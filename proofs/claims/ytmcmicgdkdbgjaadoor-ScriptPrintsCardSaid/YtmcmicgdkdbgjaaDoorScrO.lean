/- The document's step: walked (printed by wip/gen/gen_scro.py). -/
import Derived.Test.YtmcmicgdkdbgjaaDoorScrM
import Derived.Test.YtmcmicgdkdbgjaaDoorScrJ
import Derived.Test.YtmcmicgdkdbgjaaDoorScrC
import Derived.Test.YtmcmicgdkdbgjaaDoorScrE
namespace Go.Proofs.YtmcmicgdkdbgjaaDoor
open Go.RowKit
attribute [local go_sem ↓] Go.wp_at_zero Go.wp_at_succ

theorem kept_set {w wr : World} {b i : Nat} (k : Kept w wr) (hb : w.heap.size ≤ b) (u : Value) : Kept w (wr.setCell ⟨b, i, none⟩ u) := k.setCell hb u
/-- Where the document's reading of a line stands. -/
structure Dx (w : World) (go gr : Nat) (wr : World) (o : Ov) : Prop where
  bo : Blk wr go o.cells 38
  br : Blk wr gr (Ov.nil 0).cells 38
  ok : o.ok wr
  far : o.far fun b => b ≠ go ∧ b ≠ gr ∧ w.heap.size ≤ b
  kp : Kept w wr
  lo : w.heap.size ≤ go ∧ w.heap.size ≤ gr
  ne : go ≠ gr
section
variable {w wr w2 : World} {go gr : Nat} {o : Ov}
theorem Dx.kept (h : Dx w go gr wr o) (k : Kept wr w2) : Dx w go gr w2 o := ⟨Blk.kept h.bo k, Blk.kept h.br k, Ov.ok_kept h.ok k, h.far, h.kp.trans k, h.lo, h.ne⟩
theorem Dx.put (h : Dx w go gr wr o) {o' : Ov} (i : Nat) (u : Value) (hc : o'.cells = o.cells.setIfInBounds i u) (hok : o'.ok wr) (hf : o'.far fun b => b ≠ go ∧ b ≠ gr ∧ w.heap.size ≤ b) : Dx w go gr (wr.setCell ⟨go, i, none⟩ u) o' := by
  have k := grown_setCell wr ⟨go, i, none⟩ u
  refine ⟨?_, Blk.grown h.br k (fun e => h.ne (Option.some.inj e).symm), ⟨hok.1.grown k (fun b i e e2 => (hf.1 b i e).1 (Option.some.inj e2)), hok.2.grown k (fun b i e e2 => (hf.2 b i e).1 (Option.some.inj e2))⟩, hf, kept_set h.kp h.lo.1 u, h.lo, h.ne⟩
  rw [hc]
  exact Blk.set h.bo i u
theorem zero_grown (w2 : World) (gr : Nat) : w2.grownBy (zeroSet w2 gr) (some gr) := by
  have k0 := grown_setCell w2 ⟨gr, 0, none⟩ (.int .i64 0)
  have k1 := k0.trans (grown_setCell _ ⟨gr, 1, none⟩ (.slice none 0 0))
  have k2 := k1.trans (grown_setCell _ ⟨gr, 2, none⟩ (.slice none 0 0))
  have k3 := k2.trans (grown_setCell _ ⟨gr, 3, none⟩ (.int .i64 0))
  have k4 := k3.trans (grown_setCell _ ⟨gr, 4, none⟩ (.string ⟨#[]⟩))
  exact k4.trans (grown_setCell _ ⟨gr, 5, none⟩ (.string ⟨#[]⟩))
theorem op_grown (w2 : World) (gr : Nat) (o : Ov) : w2.grownBy (opSet w2 gr o) (some gr) := by
  have k0 := grown_setCell w2 ⟨gr, 0, none⟩ (.int .i64 (o.k : Int))
  have k1 := k0.trans (grown_setCell _ ⟨gr, 1, none⟩ (.slice o.A o.p.length o.c))
  have k2 := k1.trans (grown_setCell _ ⟨gr, 2, none⟩ (.slice o.B o.q.length o.d))
  have k3 := k2.trans (grown_setCell _ ⟨gr, 3, none⟩ (.int .i64 (o.n : Int)))
  have k4 := k3.trans (grown_setCell _ ⟨gr, 4, none⟩ (.string (strB o.a)))
  exact k4.trans (grown_setCell _ ⟨gr, 5, none⟩ (.string (strB o.t)))
theorem Dx.zero (h : Dx w go gr wr o) (hw : w2 = zeroSet wr gr) : Blk w2 gr (Ov.nil 0).cells 38 ∧ Kept w w2 := by
  subst hw
  exact ⟨(((((h.br.set 0 _).set 1 _).set 2 _).set 3 _).set 4 _).set 5 _, h.kp.grown (zero_grown wr gr) (fun k e => by injection e with e; have := h.lo.2; omega)⟩
theorem Dx.gave (h : Dx w go gr wr o) (hw : w2 = opSet wr gr o) : Blk w2 gr o.cells 38 ∧ Kept w w2 ∧ o.ok w2 := by
  have g := op_grown wr gr o
  have hb : Blk (opSet wr gr o) gr o.cells 38 := (((((h.br.set 0 _).set 1 _).set 2 _).set 3 _).set 4 _).set 5 _
  have hk : Kept w (opSet wr gr o) := h.kp.grown g (fun k e => by injection e with e; have := h.lo.2; omega)
  have ho : o.ok (opSet wr gr o) := ⟨h.ok.1.grown g (fun b i e e2 => (h.far.1 b i e).2.1 (Option.some.inj e2)), h.ok.2.grown g (fun b i e e2 => (h.far.2 b i e).2.1 (Option.some.inj e2))⟩
  subst hw
  exact ⟨hb, hk, ho⟩
end
theorem StepOf.mk_no {r : Option St} {w w' : World} {e : Ending} (hr : r = none) (k : Kept w w') (ov : Ov) (he : e = .returned (.tuple #[ov.val, .bool false])) : StepOf r w e w' := by
  subst hr
  exact ⟨k, ov, he⟩
theorem StepOf.mk_yes {r : Option St} {s : St} {w w' : World} {e : Ending} (hr : r = some s) (k : Kept w w') (ov : Ov) (he : e = .returned (.tuple #[ov.val, .bool true])) (hs : ov.st = s) (ho : ov.ok w') (hf : ov.far fun b => w.heap.size ≤ b) : StepOf r w e w' := by
  subst hr
  exact ⟨k, ov, he, hs, ho, hf⟩
theorem signK_any (K : Nat) (h9 : K ≤ 9) (w : World) : Calls Tryd.prog 37 #[] w fun e w' => ∃ g, e = .returned (.slice (some ⟨g, 0, none⟩) 10 10) ∧ w'.cell? ⟨g, K, none⟩ = some (.string (strB (signOf K))) ∧ Kept w w' := by
  refine (signs_any w).mono ?_
  rintro e w' ⟨he, hs, hk⟩
  obtain ⟨b, i, x, e1, hx, x0⟩ := hs.one (k := K) (by omega)
  injection e1 with e1
  injection e1 with e1 e2
  subst e1 e2
  refine ⟨_, he, ?_, hk⟩
  rw [Nat.zero_add] at x0
  rw [x0]
  have : signOf K = x := by
    unfold signOf
    rw [List.getD_eq_getElem?_getD, hx]
    rfl
  rw [this]
  rfl
theorem fin_none {k : Nat} {l : Bs} {r : Option St} (hk : 1 ≤ k) (h : kindF (l.take (toBlank l)) = k) (hr : stepF l = r) (hz : fieldsF (Ov.nil k).st (signOf k) (l.drop (toBlank l)) = none) : r = none := by
  rw [← hr]
  exact step_out hk h (fun st e => by rw [hz] at e; cases e)
set_option maxRecDepth 100000 in
set_option maxHeartbeats 16000000 in
theorem dstep_any (s : ByteArray) (w : World) (hs : s.size ≤ 1000000) : Calls Tryd.prog 26 #[.string s] w fun e w' => StepOf (stepF s.toList) w e w' := by
  obtain ⟨r, hr⟩ : ∃ r, stepF s.toList = r := ⟨_, rfl⟩
  rw [hr]
  have HR := Lib.hid hr
  have hbl := toBlank_le s.toList
  rw [bytes_len] at hbl
  obtain ⟨k0, hk0⟩ : ∃ k0, toBlank s.toList = k0 := ⟨_, rfl⟩
  have HBL := Lib.hid (fun w => dblank_any s w hs)
  rw [hk0] at HBL hbl
  have HK0 := Lib.hid hk0
  have hW := ext_head s k0
  obtain ⟨W, hWe⟩ : ∃ W, s.extract 0 k0 = W := ⟨_, rfl⟩
  rw [hWe] at hW
  have HW : Hid (W.toList = s.toList.take (toBlank s.toList)) := by rw [HK0.out]; exact hW
  have HWE := Lib.hid hWe
  have hdx : Dx w (w.heap.size + 1) w.heap.size ((w.alloc (.cells #[.int .i64 0, .slice none 0 0, .slice none 0 0, .int .i64 0, .string ⟨#[]⟩, .string ⟨#[]⟩] 38)).alloc (.cells #[.int .i64 0, .slice none 0 0, .slice none 0 0, .int .i64 0, .string ⟨#[]⟩, .string ⟨#[]⟩] 38)) (Ov.nil (kfnd W.toList 0)) := by
    have e0 : kfnd W.toList 0 = 0 := by unfold kfnd; rw [if_neg (by omega)]
    rw [e0]
    have e : (w.alloc (.cells (Ov.nil 0).cells 38)).heap.size = w.heap.size + 1 := by simp
    have hb := Blk.new (w.alloc (.cells (Ov.nil 0).cells 38)) (Ov.nil 0).cells 38
    rw [e] at hb
    exact ⟨hb, (Blk.new w _ _).alloc _, Ov.nil_ok _ _, Ov.nil_far _ _, ((Kept.refl w).alloc _).alloc _, ⟨by omega, Nat.le_refl _⟩, by omega⟩
  clear hr hW hk0 hWe
  go_enter Tryd.func26, Tryd.ntmps26
  go_wp2_with fail
  refine (HBL.out _).mono ?_
  rintro e w0 ⟨rfl, rfl⟩
  go_upto_region 3 with fail
  generalize (w.alloc (.cells #[.int .i64 0, .slice none 0 0, .slice none 0 0, .int .i64 0, .string ⟨#[]⟩, .string ⟨#[]⟩] 38)).alloc (.cells #[.int .i64 0, .slice none 0 0, .slice none 0 0, .int .i64 0, .string ⟨#[]⟩, .string ⟨#[]⟩] 38) = w1 at hdx ⊢
  obtain ⟨go, hgo⟩ : ∃ go, w.heap.size + 1 = go := ⟨_, rfl⟩
  obtain ⟨gr, hgr⟩ : ∃ gr, w.heap.size = gr := ⟨_, rfl⟩
  rw [hgo, hgr] at hdx
  rw [hgo, hgr]
  have HDX := Lib.hid hdx
  clear hgo hgr hdx
  have HWD := Lib.hid (words_any w1)
  go_wp2_with fail
  refine HWD.out.mono ?_
  rintro e w2 ⟨rfl, hwd, k2⟩
  have HDX2 := Lib.hid (HDX.out.kept k2)
  obtain ⟨gw, hgw⟩ : ∃ gw, w1.heap.size = gw := ⟨_, rfl⟩
  rw [hgw] at hwd ⊢
  have HGW : Hid (go < gw) := by rw [← hgw]; exact Blk.lt HDX.out.bo
  clear hgw HWD HDX k2
  go_wp2_with fail
  go_loopw [21] (fun v wr => ∃ i : Nat, i ≤ 10 ∧ v = .int .i64 i ∧ Hid (Dx w go gr wr (Ov.nil (kfnd W.toList i))) ∧ Sl wr 1 (some ⟨gw, 0, none⟩) 10 10 (wordsL.map strV)) (fun v _ => 10 - (intOf v).toNat)
  case atStart => exact ⟨0, Nat.zero_le _, rfl, HDX2, hwd⟩
  case round =>
    clear HDX2 hwd
    obtain ⟨i, hi, rfl, HD, hwd⟩ := hrel
    by_cases hlt : i < 10
    · have l1 : (i : Int) < 10 := by omega
      obtain ⟨b, o, x, e1, hx, x0⟩ := hwd.one hlt
      injection e1 with e1
      injection e1 with e1 e2
      subst e1 e2
      rw [Nat.zero_add] at x0
      have hwo : wordOf i = x := by
        unfold wordOf
        rw [List.getD_eq_getElem?_getD, hx]
        rfl
      have x1 : wr.cell? ⟨gw, i, none⟩ = some (.string (strB x)) := x0
      have q1 : (0 : Int) ≤ k0 := by omega
      have q2 : (k0 : Int) ≤ s.size := by omega
      have q3 : (k0 : Int).toNat = k0 := by omega
      have hwe := HWE.out
      by_cases hh : 1 ≤ i ∧ wordOf i = W.toList
      · have d1 : (0 : Int) < i := by omega
        have e0 : (strB x).toList = W.toList := by rw [strB_list, ← hwo]; exact hh.2
        have HN : Hid (kfnd W.toList (i + 1) = i) := kfnd_hit hh.1 (by omega) hh.2
        generalize strB x = D at x1 e0
        have e3 : (D.toList == W.toList) = true := by rw [e0]; simp
        have fr := Blk.frozen HD.out.bo
        have bc : wr.cell? ⟨go, 0, none⟩ = some (.int .i64 ((kfnd W.toList i : Nat) : Int)) := Blk.cell HD.out.bo 0
        clear x0 hx hwo hh e0
        go_upto_region 8 with fail
        refine wp_named ?_
        intro w4 hw4
        have HD4 : Hid (Dx w go gr w4 (Ov.nil (kfnd W.toList (i + 1)))) := by
          rw [hw4]
          exact HD.out.put (o' := Ov.nil (kfnd W.toList (i + 1))) 0 _ (by rw [HN.out]; rfl) (Ov.nil_ok _ _) (Ov.nil_far _ _)
        have hwd4 : Sl w4 1 (some ⟨gw, 0, none⟩) 10 10 (wordsL.map strV) := by
          rw [hw4]
          exact hwd.grown (grown_setCell wr ⟨go, 0, none⟩ _) (fun b o e e2 => by injection e with e; injection e with e3 e4; have h5 : b = go := Option.some.inj e2; have := HGW.out; omega)
        clear hw4 bc fr hwd
        go_wp2_with fail
        go_roundw
        case rel => exact ⟨i + 1, hlt, by go_num, HD4, hwd4⟩
        case measure =>
          simp [intOf]
          omega
      · have HN : Hid (kfnd W.toList (i + 1) = kfnd W.toList i) := kfnd_miss (by
          rcases Nat.eq_zero_or_pos i with h | h
          · exact .inl h
          · exact .inr fun e => hh ⟨h, e⟩)
        rcases Nat.eq_zero_or_pos i with h | h
        · have d1 : ¬ (0 : Int) < i := by omega
          clear x0 hx hwo hh h
          go_wp2_with fail
          go_roundw
          case rel => exact ⟨i + 1, hlt, by go_num, by rw [HN.out]; exact HD, hwd⟩
          case measure =>
            simp [intOf]
            omega
        · have d1 : (0 : Int) < i := by omega
          have e0 : (strB x).toList ≠ W.toList := by rw [strB_list, ← hwo]; exact fun e => hh ⟨h, e⟩
          generalize strB x = D at x1 e0
          have e3 : (D.toList == W.toList) = false := by simpa using e0
          clear x0 hx hwo hh h e0
          go_wp2_with fail
          go_roundw
          case rel => exact ⟨i + 1, hlt, by go_num, by rw [HN.out]; exact HD, hwd⟩
          case measure =>
            simp [intOf]
            omega
    · have l0 : ¬ (i : Int) < 10 := by omega
      have HKD : Hid (kindF (s.toList.take (toBlank s.toList)) = kfnd W.toList i) := by
        rw [show i = 10 by omega, kfnd_all, HW.out]
        rfl
      obtain ⟨K, hK⟩ : ∃ K, kfnd W.toList i = K := ⟨_, rfl⟩
      rw [hK] at HD HKD
      have bc : wr.cell? ⟨go, 0, none⟩ = some (.int .i64 (K : Int)) := Blk.cell HD.out.bo 0
      clear hK hwd
      rcases Nat.eq_zero_or_pos K with h0 | h0
      · have HZ : Hid (r = none) := by rw [← HR.out]; exact step_no _ (by rw [HKD.out, h0])
        have d1 : ((K : Int) == 0) = true := by rw [h0]; rfl
        clear h0
        have HZZ := Lib.hid (fun w' hw => HD.out.zero (w2 := w') hw)
        have fr4 := Blk.frozen HD.out.br
        have bc4 := Blk.cell HD.out.br
        have z0 : wr.cell? ⟨gr, 0, none⟩ = some (.int .i64 0) := bc4 0
        have z1 : wr.cell? ⟨gr, 1, none⟩ = some (.slice none 0 0) := bc4 1
        have z2 : wr.cell? ⟨gr, 2, none⟩ = some (.slice none 0 0) := bc4 2
        have z3 : wr.cell? ⟨gr, 3, none⟩ = some (.int .i64 0) := bc4 3
        have z4 : wr.cell? ⟨gr, 4, none⟩ = some (.string ⟨#[]⟩) := bc4 4
        have z5 : wr.cell? ⟨gr, 5, none⟩ = some (.string ⟨#[]⟩) := bc4 5
        clear bc4
        go_wp2_with fail
        refine body_named ?_
        intro w9 hw9
        obtain ⟨hz1, hz2⟩ := HZZ.out w9 hw9
        have bz := Blk.cell hz1
        have y0 : w9.cell? ⟨gr, 0, none⟩ = some (.int .i64 0) := bz 0
        have y1 : w9.cell? ⟨gr, 1, none⟩ = some (.slice none 0 0) := bz 1
        have y2 : w9.cell? ⟨gr, 2, none⟩ = some (.slice none 0 0) := bz 2
        have y3 : w9.cell? ⟨gr, 3, none⟩ = some (.int .i64 0) := bz 3
        have y4 : w9.cell? ⟨gr, 4, none⟩ = some (.string ⟨#[]⟩) := bz 4
        have y5 : w9.cell? ⟨gr, 5, none⟩ = some (.string ⟨#[]⟩) := bz 5
        refine bodyPost_ret (v := .tuple #[.agg #[.int .i64 0, .slice none 0 0, .slice none 0 0, .int .i64 0, .string ⟨#[]⟩, .string ⟨#[]⟩], .bool false]) ?_ rfl ?_
        · simp [results, Tryd.results26, go_sem, y0, y1, y2, y3, y4, y5]
        · exact StepOf.mk_no HZ.out hz2 (Ov.nil 0) rfl
      · have h9 : K ≤ 9 := (kind_word HKD.out h0).2
        have d1 : ((K : Int) == 0) = false := by rw [beq_eq_false_iff_ne]; omega
        have HSK := Lib.hid (signK_any K h9)
        have HSO := Lib.hid (sign_ok K h9)
        have p0 : (0 : Int) ≤ K := by omega
        have p1 : (K : Int) < 10 := by omega
        have HDX3 := Lib.hid HD.out
        have HK1 := Lib.hid h0
        clear h0 h9 HD
        go_upto_region 11 with fail
        go_cut [8] (fun v wx => v = .string (strB (signOf K)) ∧ Kept wr wx)
        case first =>
          go_region_with (first | (go_at_call 37; refine (HSK.out _).mono ?_; rintro e w5 ⟨g5, rfl, x5, k5⟩; have bc5 := k5.cell (show wr.drew.cell? ⟨go, 0, none⟩ = some (.int .i64 (K : Int)) from bc)))
          all_goals
            go_wp2_with fail
            go_meet
            exact ⟨rfl, (Kept.refl wr).drew.trans k5⟩
        case rest =>
        obtain ⟨rfl, kc⟩ := hcut
        have HF := Lib.hid (HDX3.out.kept kc)
        obtain ⟨sg, hsg⟩ : ∃ sg, signOf K = sg := ⟨_, rfl⟩
        have HSG : Hid (sg.all signB = true) := by rw [← hsg]; exact HSO.out.1
        have hsl : sg.length ≤ 10 := by rw [← hsg]; exact HSO.out.2
        obtain ⟨S, hS⟩ : ∃ S, strB sg = S := ⟨_, rfl⟩
        have hSl : S.toList = sg := by rw [← hS, strB_list]
        have hSz : S.size ≤ 10 := by rw [← bytes_len, hSl]; exact hsl
        have HSL := Lib.hid hSl
        rw [hsg, hS]
        have HSGE := Lib.hid hsg
        have hX := ext_end s k0
        obtain ⟨X0, hX0⟩ : ∃ X0, s.extract k0 s.size = X0 := ⟨_, rfl⟩
        rw [hX0] at hX
        have hX0s : X0.size ≤ 1000000 := by
          have := congrArg List.length hX
          rw [bytes_len, List.length_drop, bytes_len] at this
          omega
        obtain ⟨z, hz⟩ : ∃ z, fieldsF (Ov.nil K).st sg X0.toList = z := ⟨_, rfl⟩
        have HZN : Hid (z = none → r = none) := by
          intro h
          refine fin_none HK1.out HKD.out HR.out ?_
          rw [HSGE.out, HK0.out, ← hX, hz]
          exact h
        have HZO : Hid (∀ st l, z = some (st, l) → l ≠ [] → r = none) := by
          intro st l h hl
          rw [← HR.out]
          refine step_out HK1.out HKD.out (fun st' e => ?_)
          rw [HSGE.out, HK0.out, ← hX, hz, h] at e
          injection e with e
          injection e with e3 e4
          exact hl e4
        have HZY : Hid (∀ st, z = some (st, []) → r = some st) := by
          intro st h
          rw [← HR.out]
          refine step_hit HK1.out HKD.out ?_
          rw [HSGE.out, HK0.out, ← hX, hz]
          exact h
        have HZZ0 : Hid (fieldsF (Ov.nil K).st (sg.drop 0) X0.toList = z) := hz
        have q1 : (0 : Int) ≤ k0 := by omega
        have q2 : (k0 : Int) ≤ s.size := by omega
        have q3 : (k0 : Int).toNat = k0 := by omega
        clear hsg hS hSl hX hz hsl bc kc HSK HSO p0 p1 d1 HDX3
        go_wp2_with fail
        clear hX0 q1 q2 q3
        go_loopw [0, 9] (fun u v wr => ∃ (j : Nat) (X : ByteArray) (o : Ov), j ≤ S.size ∧ u = .string X ∧ v = .int .i64 j ∧ X.size ≤ 1000000 ∧ Hid (Dx w go gr wr o) ∧ Hid (fieldsF o.st (sg.drop j) X.toList = z)) (fun _ v _ => S.size - (intOf v).toNat)
        case atStart => exact ⟨0, X0, Ov.nil K, Nat.zero_le _, rfl, rfl, hX0s, HF, HZZ0⟩
        case round =>
          clear HF HZZ0 hX0s
          obtain ⟨j, X, o, hj, rfl, rfl, hXs, HF, HR2⟩ := hrel
          by_cases hp : j < S.size
          · obtain ⟨c, hc⟩ : ∃ c, S[j]'hp = c := ⟨_, rfl⟩
            have hget : sg[j]? = some c := by rw [← HSL.out, bytes_get hp, hc]
            have HD := Lib.hid (drop_at hget)
            have hsc : signB c = true := List.all_eq_true.1 HSG.out c (List.mem_of_getElem? hget)
            have l1 : (j : Int) < S.size := by omega
            have l2 : (0 : Int) ≤ j := by omega
            have s1 : IntKind.i64.wrap ((j : Int) + 1) = (j : Int) + 1 := IntWalk.i64_in _ (by omega)
            clear hget
            cases hb : blankB X.toList with
            | false =>
              have HZ : Hid (r = none) := HZN.out (by
                have := HR2.out
                rw [HD.out, ff_no hb] at this
                exact this.symm)
              cases hl : X.toList with
              | nil =>
                have e1 : (X.toList == []) = true := by rw [hl]; rfl
                have e2 : X.toList.isEmpty = true := by rw [hl]; rfl
                clear hl hb hsc
                have HZZ := Lib.hid (fun w' hw => HF.out.zero (w2 := w') hw)
                have fr4 := Blk.frozen HF.out.br
                have bc4 := Blk.cell HF.out.br
                have z0 : wr.cell? ⟨gr, 0, none⟩ = some (.int .i64 0) := bc4 0
                have z1 : wr.cell? ⟨gr, 1, none⟩ = some (.slice none 0 0) := bc4 1
                have z2 : wr.cell? ⟨gr, 2, none⟩ = some (.slice none 0 0) := bc4 2
                have z3 : wr.cell? ⟨gr, 3, none⟩ = some (.int .i64 0) := bc4 3
                have z4 : wr.cell? ⟨gr, 4, none⟩ = some (.string ⟨#[]⟩) := bc4 4
                have z5 : wr.cell? ⟨gr, 5, none⟩ = some (.string ⟨#[]⟩) := bc4 5
                clear bc4
                go_wp2_with fail
                refine body_named ?_
                intro w9 hw9
                obtain ⟨hz1, hz2⟩ := HZZ.out w9 hw9
                have bz := Blk.cell hz1
                have y0 : w9.cell? ⟨gr, 0, none⟩ = some (.int .i64 0) := bz 0
                have y1 : w9.cell? ⟨gr, 1, none⟩ = some (.slice none 0 0) := bz 1
                have y2 : w9.cell? ⟨gr, 2, none⟩ = some (.slice none 0 0) := bz 2
                have y3 : w9.cell? ⟨gr, 3, none⟩ = some (.int .i64 0) := bz 3
                have y4 : w9.cell? ⟨gr, 4, none⟩ = some (.string ⟨#[]⟩) := bz 4
                have y5 : w9.cell? ⟨gr, 5, none⟩ = some (.string ⟨#[]⟩) := bz 5
                refine bodyPost_ret (v := .tuple #[.agg #[.int .i64 0, .slice none 0 0, .slice none 0 0, .int .i64 0, .string ⟨#[]⟩, .string ⟨#[]⟩], .bool false]) ?_ rfl ?_
                · simp [results, Tryd.results26, go_sem, y0, y1, y2, y3, y4, y5]
                · exact StepOf.mk_no HZ.out hz2 (Ov.nil 0) rfl
              | cons b l =>
                have e1 : (X.toList == []) = false := by rw [hl]; rfl
                have e2 : X.toList.isEmpty = false := by rw [hl]; rfl
                have hX1 : 0 < X.size := by rw [← bytes_len, hl]; simp
                have i1 : (0 : Int) < X.size := by omega
                have hx0 : X[0]'hX1 = b := by
                  have := bytes_get hX1
                  rw [hl] at this
                  exact (Option.some.inj this).symm
                rw [hl] at hb
                have d1 : (((X[0]'hX1).toNat : Int) != 32) = true := by
                  rw [hx0]
                  exact u8_neb (n := 32) (by omega) (by simpa [blankB] using hb)
                obtain ⟨B, hB⟩ : ∃ B, (X[0]'hX1).toNat = B := ⟨_, rfl⟩
                rw [hB] at d1
                clear hl hb hsc hx0
                have HZZ := Lib.hid (fun w' hw => HF.out.zero (w2 := w') hw)
                have fr4 := Blk.frozen HF.out.br
                have bc4 := Blk.cell HF.out.br
                have z0 : wr.cell? ⟨gr, 0, none⟩ = some (.int .i64 0) := bc4 0
                have z1 : wr.cell? ⟨gr, 1, none⟩ = some (.slice none 0 0) := bc4 1
                have z2 : wr.cell? ⟨gr, 2, none⟩ = some (.slice none 0 0) := bc4 2
                have z3 : wr.cell? ⟨gr, 3, none⟩ = some (.int .i64 0) := bc4 3
                have z4 : wr.cell? ⟨gr, 4, none⟩ = some (.string ⟨#[]⟩) := bc4 4
                have z5 : wr.cell? ⟨gr, 5, none⟩ = some (.string ⟨#[]⟩) := bc4 5
                clear bc4
                go_wp2_with fail
                refine body_named ?_
                intro w9 hw9
                obtain ⟨hz1, hz2⟩ := HZZ.out w9 hw9
                have bz := Blk.cell hz1
                have y0 : w9.cell? ⟨gr, 0, none⟩ = some (.int .i64 0) := bz 0
                have y1 : w9.cell? ⟨gr, 1, none⟩ = some (.slice none 0 0) := bz 1
                have y2 : w9.cell? ⟨gr, 2, none⟩ = some (.slice none 0 0) := bz 2
                have y3 : w9.cell? ⟨gr, 3, none⟩ = some (.int .i64 0) := bz 3
                have y4 : w9.cell? ⟨gr, 4, none⟩ = some (.string ⟨#[]⟩) := bz 4
                have y5 : w9.cell? ⟨gr, 5, none⟩ = some (.string ⟨#[]⟩) := bz 5
                refine bodyPost_ret (v := .tuple #[.agg #[.int .i64 0, .slice none 0 0, .slice none 0 0, .int .i64 0, .string ⟨#[]⟩, .string ⟨#[]⟩], .bool false]) ?_ rfl ?_
                · simp [results, Tryd.results26, go_sem, y0, y1, y2, y3, y4, y5]
                · exact StepOf.mk_no HZ.out hz2 (Ov.nil 0) rfl
            | true =>
              have hlc := ff_yes hb
              have e1 : (X.toList == []) = false := by rw [hlc]; rfl
              have e2 : X.toList.isEmpty = false := by rw [hlc]; rfl
              have hX1 : 0 < X.size := by rw [← bytes_len, hlc]; simp
              have i1 : (0 : Int) < X.size := by omega
              have i2 : (1 : Int) ≤ X.size := by omega
              have hx0 : X[0]'hX1 = 32 := by
                have := bytes_get hX1
                rw [hlc] at this
                exact (Option.some.inj this).symm
              have d1 : (((X[0]'hX1).toNat : Int) != 32) = false := by rw [hx0]; rfl
              obtain ⟨B, hB⟩ : ∃ B, (X[0]'hX1).toNat = B := ⟨_, rfl⟩
              rw [hB] at d1
              have hX2 := ext_end X 1
              obtain ⟨Y, hY⟩ : ∃ Y, X.extract 1 X.size = Y := ⟨_, rfl⟩
              rw [hY] at hX2
              have hYs : Y.size ≤ 1000000 := by
                have := congrArg List.length hX2
                rw [bytes_len, List.length_drop, bytes_len] at this
                omega
              have HG : Hid (z = match fieldG o.st c Y.toList with
                | none => none
                | some x => fieldsF x.1 (sg.drop (j + 1)) x.2) := by
                have := HR2.out
                rw [HD.out, ff_step hb, ← hX2] at this
                exact this.symm
              have hcs : c = 112 ∨ c = 113 ∨ c = 110 ∨ c = 97 ∨ c = 116 := by
                unfold signB at hsc
                simp at hsc
                rcases hsc with (((h | h) | h) | h) | h <;> simp [h]
              clear hsc hb hlc hx0 hX2 HR2 HD
              rcases hcs with rfl | rfl | rfl | rfl | rfl
              · have hcn : (S[j]'hp).toNat = 112 := by rw [hc]; rfl
                clear hc
                obtain ⟨kb, hkb⟩ : ∃ kb, toBlank Y.toList = kb := ⟨_, rfl⟩
                have hkl := toBlank_le Y.toList
                rw [bytes_len, hkb] at hkl
                have HBK := Lib.hid (fun w' => dblank_any Y w' hYs)
                rw [hkb] at HBK
                have hQ := ext_head Y kb
                obtain ⟨Q, hQe⟩ : ∃ Q, Y.extract 0 kb = Q := ⟨_, rfl⟩
                rw [hQe] at hQ
                have hQs : Q.size ≤ 1000000 := Nat.le_trans (take_le hQ) hYs
                have hpd := fun w' => rpread_any Q w' hQs
                rw [hQ] at hpd
                have hZl := ext_end Y kb
                obtain ⟨Z, hZ⟩ : ∃ Z, Y.extract kb Y.size = Z := ⟨_, rfl⟩
                rw [hZ] at hZl
                have hZs : Z.size ≤ 1000000 := by
                  have := congrArg List.length hZl
                  rw [bytes_len, List.length_drop, bytes_len] at this
                  omega
                have t1 : (0 : Int) ≤ kb := by omega
                have t2 : (kb : Int) ≤ Y.size := by omega
                have t3 : (kb : Int).toNat = kb := by omega
                have HKB := Lib.hid hkb
                have HZL := Lib.hid hZl
                have hszl := HF.out.kp.size
                clear hkb hQ hZl
                cases hz2 : pathF (Y.toList.take kb) with
                | none =>
                  have HZ : Hid (r = none) := HZN.out (by have := HG.out; rwa [fg_pn (by decide) (by decide) (by rw [HKB.out]; exact hz2)] at this)
                  have HC : Hid (∀ w', Calls Tryd.prog 46 #[.string Q] w' fun e w'' => e = .returned (.tuple #[.slice none 0 0, .bool false]) ∧ Kept w' w'') := by
                    intro w'
                    have := hpd w'
                    rw [hz2] at this
                    exact this.mono fun e w'' h => ⟨h.2, h.1⟩
                  clear hpd hz2 HG
                  go_wp2_with fail
                  refine (HBK.out _).mono ?_
                  rintro e w2' ⟨rfl, rfl⟩
                  go_wp2_with fail
                  refine (HC.out _).mono ?_
                  rintro e w3 ⟨rfl, k3⟩
                  have HF3 := Lib.hid (HF.out.kept k3)
                  have HZZ := Lib.hid (fun w' hw => HF3.out.zero (w2 := w') hw)
                  have fr4 := Blk.frozen HF3.out.br
                  have bc4 := Blk.cell HF3.out.br
                  have z0 : w3.cell? ⟨gr, 0, none⟩ = some (.int .i64 0) := bc4 0
                  have z1 : w3.cell? ⟨gr, 1, none⟩ = some (.slice none 0 0) := bc4 1
                  have z2 : w3.cell? ⟨gr, 2, none⟩ = some (.slice none 0 0) := bc4 2
                  have z3 : w3.cell? ⟨gr, 3, none⟩ = some (.int .i64 0) := bc4 3
                  have z4 : w3.cell? ⟨gr, 4, none⟩ = some (.string ⟨#[]⟩) := bc4 4
                  have z5 : w3.cell? ⟨gr, 5, none⟩ = some (.string ⟨#[]⟩) := bc4 5
                  clear bc4
                  go_wp2_with fail
                  refine body_named ?_
                  intro w9 hw9
                  obtain ⟨hz1, hz2⟩ := HZZ.out w9 hw9
                  have bz := Blk.cell hz1
                  have y0 : w9.cell? ⟨gr, 0, none⟩ = some (.int .i64 0) := bz 0
                  have y1 : w9.cell? ⟨gr, 1, none⟩ = some (.slice none 0 0) := bz 1
                  have y2 : w9.cell? ⟨gr, 2, none⟩ = some (.slice none 0 0) := bz 2
                  have y3 : w9.cell? ⟨gr, 3, none⟩ = some (.int .i64 0) := bz 3
                  have y4 : w9.cell? ⟨gr, 4, none⟩ = some (.string ⟨#[]⟩) := bz 4
                  have y5 : w9.cell? ⟨gr, 5, none⟩ = some (.string ⟨#[]⟩) := bz 5
                  refine bodyPost_ret (v := .tuple #[.agg #[.int .i64 0, .slice none 0 0, .slice none 0 0, .int .i64 0, .string ⟨#[]⟩, .string ⟨#[]⟩], .bool false]) ?_ rfl ?_
                  · simp [results, Tryd.results26, go_sem, y0, y1, y2, y3, y4, y5]
                  · exact StepOf.mk_no HZ.out hz2 (Ov.nil 0) rfl
                | some p =>
                  have HC : Hid (∀ w', Calls Tryd.prog 46 #[.string Q] w' fun e w'' => ∃ VA VC, e = .returned (.tuple #[.slice VA p.length VC, .bool true]) ∧ Sl w'' 1 VA p.length VC (p.map natV) ∧ (∀ b i, VA = some ⟨b, i, none⟩ → w'.heap.size ≤ b) ∧ Kept w' w'') := by
                    intro w'
                    have := hpd w'
                    rw [hz2] at this
                    exact this.mono fun e w'' h => by obtain ⟨h1, VA, VC, h2, h3, h4⟩ := h; exact ⟨VA, VC, h2, h3, h4, h1⟩
                  have HG3 : Hid (z = fieldsF { o.st with p := p } (sg.drop (j + 1)) Z.toList) := by
                    have := HG.out
                    rw [fg_p (p := p) (by rw [HKB.out]; exact hz2), HKB.out, ← HZL.out] at this
                    exact this
                  obtain ⟨m, hm⟩ : ∃ m, p.length = m := ⟨_, rfl⟩
                  rw [hm] at HC
                  have HM := Lib.hid hm
                  clear hm hpd hz2 HG
                  go_wp2_with fail
                  refine (HBK.out _).mono ?_
                  rintro e w2' ⟨rfl, rfl⟩
                  go_wp2_with fail
                  refine (HC.out _).mono ?_
                  rintro e w3 ⟨VA, VC, rfl, hV, hVb, k3⟩
                  have HF3 := Lib.hid (HF.out.kept k3)
                  have HVV := Lib.hid hV
                  have HVF : Hid (∀ b i, VA = some ⟨b, i, none⟩ → b ≠ go ∧ b ≠ gr ∧ w.heap.size ≤ b) := by
                    intro b i e
                    have hb := hVb b i e
                    have u2 := Blk.lt HF.out.bo
                    have u3 := Blk.lt HF.out.br
                    exact ⟨by omega, by omega, by omega⟩
                  have HR4 : Hid (fieldsF (Ov.st { o with A := VA, c := VC, p := p }) (sg.drop (j + 1)) Z.toList = z) := HG3.out.symm
                  clear hV hVb
                  have fr := Blk.frozen HF3.out.bo
                  have bc : w3.cell? ⟨go, 1, none⟩ = some (.slice o.A o.p.length o.c) := Blk.cell HF3.out.bo 1
                  go_upto_region 37 with fail
                  refine wp_named ?_
                  intro w4 hw4
                  have HF4 : Hid (Dx w go gr w4 { o with A := VA, c := VC, p := p }) := by
                    rw [hw4]
                    exact HF3.out.put (o' := { o with A := VA, c := VC, p := p }) 1 _ (by have hm := HM.out; subst hm; rfl) ⟨by rw [HM.out]; exact HVV.out, HF3.out.ok.2⟩ ⟨HVF.out, HF3.out.far.2⟩
                  clear hw4 bc fr
                  go_wp2_with fail
                  go_roundw
                  case rel => exact ⟨j + 1, Z, { o with A := VA, c := VC, p := p }, hp, by rw [← hZ], by go_num, hZs, HF4, HR4⟩
                  case measure =>
                    simp [intOf]
                    omega
              · have hcn : (S[j]'hp).toNat = 113 := by rw [hc]; rfl
                clear hc
                obtain ⟨kb, hkb⟩ : ∃ kb, toBlank Y.toList = kb := ⟨_, rfl⟩
                have hkl := toBlank_le Y.toList
                rw [bytes_len, hkb] at hkl
                have HBK := Lib.hid (fun w' => dblank_any Y w' hYs)
                rw [hkb] at HBK
                have hQ := ext_head Y kb
                obtain ⟨Q, hQe⟩ : ∃ Q, Y.extract 0 kb = Q := ⟨_, rfl⟩
                rw [hQe] at hQ
                have hQs : Q.size ≤ 1000000 := Nat.le_trans (take_le hQ) hYs
                have hpd := fun w' => rpread_any Q w' hQs
                rw [hQ] at hpd
                have hZl := ext_end Y kb
                obtain ⟨Z, hZ⟩ : ∃ Z, Y.extract kb Y.size = Z := ⟨_, rfl⟩
                rw [hZ] at hZl
                have hZs : Z.size ≤ 1000000 := by
                  have := congrArg List.length hZl
                  rw [bytes_len, List.length_drop, bytes_len] at this
                  omega
                have t1 : (0 : Int) ≤ kb := by omega
                have t2 : (kb : Int) ≤ Y.size := by omega
                have t3 : (kb : Int).toNat = kb := by omega
                have HKB := Lib.hid hkb
                have HZL := Lib.hid hZl
                have hszl := HF.out.kp.size
                clear hkb hQ hZl
                cases hz2 : pathF (Y.toList.take kb) with
                | none =>
                  have HZ : Hid (r = none) := HZN.out (by have := HG.out; rwa [fg_pn (by decide) (by decide) (by rw [HKB.out]; exact hz2)] at this)
                  have HC : Hid (∀ w', Calls Tryd.prog 46 #[.string Q] w' fun e w'' => e = .returned (.tuple #[.slice none 0 0, .bool false]) ∧ Kept w' w'') := by
                    intro w'
                    have := hpd w'
                    rw [hz2] at this
                    exact this.mono fun e w'' h => ⟨h.2, h.1⟩
                  clear hpd hz2 HG
                  go_wp2_with fail
                  refine (HBK.out _).mono ?_
                  rintro e w2' ⟨rfl, rfl⟩
                  go_wp2_with fail
                  refine (HC.out _).mono ?_
                  rintro e w3 ⟨rfl, k3⟩
                  have HF3 := Lib.hid (HF.out.kept k3)
                  have HZZ := Lib.hid (fun w' hw => HF3.out.zero (w2 := w') hw)
                  have fr4 := Blk.frozen HF3.out.br
                  have bc4 := Blk.cell HF3.out.br
                  have z0 : w3.cell? ⟨gr, 0, none⟩ = some (.int .i64 0) := bc4 0
                  have z1 : w3.cell? ⟨gr, 1, none⟩ = some (.slice none 0 0) := bc4 1
                  have z2 : w3.cell? ⟨gr, 2, none⟩ = some (.slice none 0 0) := bc4 2
                  have z3 : w3.cell? ⟨gr, 3, none⟩ = some (.int .i64 0) := bc4 3
                  have z4 : w3.cell? ⟨gr, 4, none⟩ = some (.string ⟨#[]⟩) := bc4 4
                  have z5 : w3.cell? ⟨gr, 5, none⟩ = some (.string ⟨#[]⟩) := bc4 5
                  clear bc4
                  go_wp2_with fail
                  refine body_named ?_
                  intro w9 hw9
                  obtain ⟨hz1, hz2⟩ := HZZ.out w9 hw9
                  have bz := Blk.cell hz1
                  have y0 : w9.cell? ⟨gr, 0, none⟩ = some (.int .i64 0) := bz 0
                  have y1 : w9.cell? ⟨gr, 1, none⟩ = some (.slice none 0 0) := bz 1
                  have y2 : w9.cell? ⟨gr, 2, none⟩ = some (.slice none 0 0) := bz 2
                  have y3 : w9.cell? ⟨gr, 3, none⟩ = some (.int .i64 0) := bz 3
                  have y4 : w9.cell? ⟨gr, 4, none⟩ = some (.string ⟨#[]⟩) := bz 4
                  have y5 : w9.cell? ⟨gr, 5, none⟩ = some (.string ⟨#[]⟩) := bz 5
                  refine bodyPost_ret (v := .tuple #[.agg #[.int .i64 0, .slice none 0 0, .slice none 0 0, .int .i64 0, .string ⟨#[]⟩, .string ⟨#[]⟩], .bool false]) ?_ rfl ?_
                  · simp [results, Tryd.results26, go_sem, y0, y1, y2, y3, y4, y5]
                  · exact StepOf.mk_no HZ.out hz2 (Ov.nil 0) rfl
                | some p =>
                  have HC : Hid (∀ w', Calls Tryd.prog 46 #[.string Q] w' fun e w'' => ∃ VA VC, e = .returned (.tuple #[.slice VA p.length VC, .bool true]) ∧ Sl w'' 1 VA p.length VC (p.map natV) ∧ (∀ b i, VA = some ⟨b, i, none⟩ → w'.heap.size ≤ b) ∧ Kept w' w'') := by
                    intro w'
                    have := hpd w'
                    rw [hz2] at this
                    exact this.mono fun e w'' h => by obtain ⟨h1, VA, VC, h2, h3, h4⟩ := h; exact ⟨VA, VC, h2, h3, h4, h1⟩
                  have HG3 : Hid (z = fieldsF { o.st with q := p } (sg.drop (j + 1)) Z.toList) := by
                    have := HG.out
                    rw [fg_q (p := p) (by rw [HKB.out]; exact hz2), HKB.out, ← HZL.out] at this
                    exact this
                  obtain ⟨m, hm⟩ : ∃ m, p.length = m := ⟨_, rfl⟩
                  rw [hm] at HC
                  have HM := Lib.hid hm
                  clear hm hpd hz2 HG
                  go_wp2_with fail
                  refine (HBK.out _).mono ?_
                  rintro e w2' ⟨rfl, rfl⟩
                  go_wp2_with fail
                  refine (HC.out _).mono ?_
                  rintro e w3 ⟨VA, VC, rfl, hV, hVb, k3⟩
                  have HF3 := Lib.hid (HF.out.kept k3)
                  have HVV := Lib.hid hV
                  have HVF : Hid (∀ b i, VA = some ⟨b, i, none⟩ → b ≠ go ∧ b ≠ gr ∧ w.heap.size ≤ b) := by
                    intro b i e
                    have hb := hVb b i e
                    have u2 := Blk.lt HF.out.bo
                    have u3 := Blk.lt HF.out.br
                    exact ⟨by omega, by omega, by omega⟩
                  have HR4 : Hid (fieldsF (Ov.st { o with B := VA, d := VC, q := p }) (sg.drop (j + 1)) Z.toList = z) := HG3.out.symm
                  clear hV hVb
                  have fr := Blk.frozen HF3.out.bo
                  have bc : w3.cell? ⟨go, 2, none⟩ = some (.slice o.B o.q.length o.d) := Blk.cell HF3.out.bo 2
                  go_upto_region 37 with fail
                  refine wp_named ?_
                  intro w4 hw4
                  have HF4 : Hid (Dx w go gr w4 { o with B := VA, d := VC, q := p }) := by
                    rw [hw4]
                    exact HF3.out.put (o' := { o with B := VA, d := VC, q := p }) 2 _ (by have hm := HM.out; subst hm; rfl) ⟨HF3.out.ok.1, by rw [HM.out]; exact HVV.out⟩ ⟨HF3.out.far.1, HVF.out⟩
                  clear hw4 bc fr
                  go_wp2_with fail
                  go_roundw
                  case rel => exact ⟨j + 1, Z, { o with B := VA, d := VC, q := p }, hp, by rw [← hZ], by go_num, hZs, HF4, HR4⟩
                  case measure =>
                    simp [intOf]
                    omega
              · have hcn : (S[j]'hp).toNat = 110 := by rw [hc]; rfl
                clear hc
                obtain ⟨kb, hkb⟩ : ∃ kb, toBlank Y.toList = kb := ⟨_, rfl⟩
                have hkl := toBlank_le Y.toList
                rw [bytes_len, hkb] at hkl
                have HBK := Lib.hid (fun w' => dblank_any Y w' hYs)
                rw [hkb] at HBK
                have hQ := ext_head Y kb
                obtain ⟨Q, hQe⟩ : ∃ Q, Y.extract 0 kb = Q := ⟨_, rfl⟩
                rw [hQe] at hQ
                have hQs : Q.size ≤ 1000000 := Nat.le_trans (take_le hQ) hYs
                have hpd := fun w' => rpread_any Q w' hQs
                rw [hQ] at hpd
                have hZl := ext_end Y kb
                obtain ⟨Z, hZ⟩ : ∃ Z, Y.extract kb Y.size = Z := ⟨_, rfl⟩
                rw [hZ] at hZl
                have hZs : Z.size ≤ 1000000 := by
                  have := congrArg List.length hZl
                  rw [bytes_len, List.length_drop, bytes_len] at this
                  omega
                have t1 : (0 : Int) ≤ kb := by omega
                have t2 : (kb : Int) ≤ Y.size := by omega
                have t3 : (kb : Int).toNat = kb := by omega
                have HKB := Lib.hid hkb
                have HZL := Lib.hid hZl
                have hszl := HF.out.kp.size
                clear hkb hQ hZl
                cases hz2 : pathF (Y.toList.take kb) with
                | none =>
                  have HZ : Hid (r = none) := HZN.out (by have := HG.out; rwa [fg_nn (by rw [HKB.out, hz2]; rintro ⟨n, e⟩; cases e)] at this)
                  have HC : Hid (∀ w', Calls Tryd.prog 46 #[.string Q] w' fun e w'' => e = .returned (.tuple #[.slice none 0 0, .bool false]) ∧ Kept w' w'') := by
                    intro w'
                    have := hpd w'
                    rw [hz2] at this
                    exact this.mono fun e w'' h => ⟨h.2, h.1⟩
                  clear hpd hz2 HG
                  go_wp2_with fail
                  refine (HBK.out _).mono ?_
                  rintro e w2' ⟨rfl, rfl⟩
                  go_wp2_with fail
                  refine (HC.out _).mono ?_
                  rintro e w3 ⟨rfl, k3⟩
                  have HF3 := Lib.hid (HF.out.kept k3)
                  have HZZ := Lib.hid (fun w' hw => HF3.out.zero (w2 := w') hw)
                  have fr4 := Blk.frozen HF3.out.br
                  have bc4 := Blk.cell HF3.out.br
                  have z0 : w3.cell? ⟨gr, 0, none⟩ = some (.int .i64 0) := bc4 0
                  have z1 : w3.cell? ⟨gr, 1, none⟩ = some (.slice none 0 0) := bc4 1
                  have z2 : w3.cell? ⟨gr, 2, none⟩ = some (.slice none 0 0) := bc4 2
                  have z3 : w3.cell? ⟨gr, 3, none⟩ = some (.int .i64 0) := bc4 3
                  have z4 : w3.cell? ⟨gr, 4, none⟩ = some (.string ⟨#[]⟩) := bc4 4
                  have z5 : w3.cell? ⟨gr, 5, none⟩ = some (.string ⟨#[]⟩) := bc4 5
                  clear bc4
                  go_wp2_with fail
                  refine body_named ?_
                  intro w9 hw9
                  obtain ⟨hz1, hz2⟩ := HZZ.out w9 hw9
                  have bz := Blk.cell hz1
                  have y0 : w9.cell? ⟨gr, 0, none⟩ = some (.int .i64 0) := bz 0
                  have y1 : w9.cell? ⟨gr, 1, none⟩ = some (.slice none 0 0) := bz 1
                  have y2 : w9.cell? ⟨gr, 2, none⟩ = some (.slice none 0 0) := bz 2
                  have y3 : w9.cell? ⟨gr, 3, none⟩ = some (.int .i64 0) := bz 3
                  have y4 : w9.cell? ⟨gr, 4, none⟩ = some (.string ⟨#[]⟩) := bz 4
                  have y5 : w9.cell? ⟨gr, 5, none⟩ = some (.string ⟨#[]⟩) := bz 5
                  refine bodyPost_ret (v := .tuple #[.agg #[.int .i64 0, .slice none 0 0, .slice none 0 0, .int .i64 0, .string ⟨#[]⟩, .string ⟨#[]⟩], .bool false]) ?_ rfl ?_
                  · simp [results, Tryd.results26, go_sem, y0, y1, y2, y3, y4, y5]
                  · exact StepOf.mk_no HZ.out hz2 (Ov.nil 0) rfl
                | some p =>
                  have HC : Hid (∀ w', Calls Tryd.prog 46 #[.string Q] w' fun e w'' => ∃ VA VC, e = .returned (.tuple #[.slice VA p.length VC, .bool true]) ∧ Sl w'' 1 VA p.length VC (p.map natV) ∧ (∀ b i, VA = some ⟨b, i, none⟩ → w'.heap.size ≤ b) ∧ Kept w' w'') := by
                    intro w'
                    have := hpd w'
                    rw [hz2] at this
                    exact this.mono fun e w'' h => by obtain ⟨h1, VA, VC, h2, h3, h4⟩ := h; exact ⟨VA, VC, h2, h3, h4, h1⟩
                  by_cases h1 : p.length = 1
                  · obtain ⟨n, rfl⟩ : ∃ n, p = [n] := List.length_eq_one_iff.1 h1
                    have HG3 : Hid (z = fieldsF { o.st with n := n } (sg.drop (j + 1)) Z.toList) := by
                      have := HG.out
                      rw [fg_n (n := n) (by rw [HKB.out]; exact hz2), HKB.out, ← HZL.out] at this
                      exact this
                    clear h1 hpd hz2 HG
                    go_wp2_with fail
                    refine (HBK.out _).mono ?_
                    rintro e w2' ⟨rfl, rfl⟩
                    go_wp2_with fail
                    refine (HC.out _).mono ?_
                    rintro e w3 ⟨VA, VC, rfl, hV, hVb, k3⟩
                    have HF3 := Lib.hid (HF.out.kept k3)
                    obtain ⟨b, i, u, rfl, hu, u0⟩ := hV.one (by simp : 0 < [n].length)
                    obtain rfl : n = u := by simpa using hu
                    have u1 : w3.cell? ⟨b, i, none⟩ = some (.int .i64 (n : Int)) := by
                      rw [Nat.add_zero] at u0
                      exact u0
                    have dd1 : (((1 : Nat) : Int) != 1) = false := rfl
                    have hcap := hV.cap
                    have hcm := hV.max
                    have HR4 : Hid (fieldsF (Ov.st { o with n := n }) (sg.drop (j + 1)) Z.toList = z) := HG3.out.symm
                    clear hV hVb hu u0
                    have fr := Blk.frozen HF3.out.bo
                    have bc : w3.cell? ⟨go, 3, none⟩ = some (.int .i64 (o.n : Int)) := Blk.cell HF3.out.bo 3
                    go_upto_region 37 with fail
                    refine wp_named ?_
                    intro w4 hw4
                    have HF4 : Hid (Dx w go gr w4 { o with n := n }) := by
                      rw [hw4]
                      exact HF3.out.put (o' := { o with n := n }) 3 _ rfl HF3.out.ok HF3.out.far
                    clear hw4 bc fr
                    go_wp2_with fail
                    go_roundw
                    case rel => exact ⟨j + 1, Z, { o with n := n }, hp, by rw [← hZ], by go_num, hZs, HF4, HR4⟩
                    case measure =>
                      simp [intOf]
                      omega
                  · have HZ : Hid (r = none) := HZN.out (by
                      have := HG.out
                      rwa [fg_nn (by rw [HKB.out, hz2]; rintro ⟨n, e⟩; injection e with e; rw [e] at h1; exact h1 rfl)] at this)
                    obtain ⟨m, hm⟩ : ∃ m, p.length = m := ⟨_, rfl⟩
                    rw [hm] at HC h1
                    have dd1 : ((m : Int) != 1) = true := by simp; omega
                    clear hm hpd hz2 HG h1
                    go_wp2_with fail
                    refine (HBK.out _).mono ?_
                    rintro e w2' ⟨rfl, rfl⟩
                    go_wp2_with fail
                    refine (HC.out _).mono ?_
                    rintro e w3 ⟨VA, VC, rfl, hV, hVb, k3⟩
                    have HF3 := Lib.hid (HF.out.kept k3)
                    clear hV hVb
                    have HZZ := Lib.hid (fun w' hw => HF3.out.zero (w2 := w') hw)
                    have fr4 := Blk.frozen HF3.out.br
                    have bc4 := Blk.cell HF3.out.br
                    have z0 : w3.cell? ⟨gr, 0, none⟩ = some (.int .i64 0) := bc4 0
                    have z1 : w3.cell? ⟨gr, 1, none⟩ = some (.slice none 0 0) := bc4 1
                    have z2 : w3.cell? ⟨gr, 2, none⟩ = some (.slice none 0 0) := bc4 2
                    have z3 : w3.cell? ⟨gr, 3, none⟩ = some (.int .i64 0) := bc4 3
                    have z4 : w3.cell? ⟨gr, 4, none⟩ = some (.string ⟨#[]⟩) := bc4 4
                    have z5 : w3.cell? ⟨gr, 5, none⟩ = some (.string ⟨#[]⟩) := bc4 5
                    clear bc4
                    go_wp2_with fail
                    refine body_named ?_
                    intro w9 hw9
                    obtain ⟨hz1, hz2⟩ := HZZ.out w9 hw9
                    have bz := Blk.cell hz1
                    have y0 : w9.cell? ⟨gr, 0, none⟩ = some (.int .i64 0) := bz 0
                    have y1 : w9.cell? ⟨gr, 1, none⟩ = some (.slice none 0 0) := bz 1
                    have y2 : w9.cell? ⟨gr, 2, none⟩ = some (.slice none 0 0) := bz 2
                    have y3 : w9.cell? ⟨gr, 3, none⟩ = some (.int .i64 0) := bz 3
                    have y4 : w9.cell? ⟨gr, 4, none⟩ = some (.string ⟨#[]⟩) := bz 4
                    have y5 : w9.cell? ⟨gr, 5, none⟩ = some (.string ⟨#[]⟩) := bz 5
                    refine bodyPost_ret (v := .tuple #[.agg #[.int .i64 0, .slice none 0 0, .slice none 0 0, .int .i64 0, .string ⟨#[]⟩, .string ⟨#[]⟩], .bool false]) ?_ rfl ?_
                    · simp [results, Tryd.results26, go_sem, y0, y1, y2, y3, y4, y5]
                    · exact StepOf.mk_no HZ.out hz2 (Ov.nil 0) rfl
              · have hcn : (S[j]'hp).toNat = 97 := by rw [hc]; rfl
                clear hc
                have hrd := fun w' => rread_any Y w' hYs
                cases hz2 : readF Y.toList with
                | none =>
                  have HZ : Hid (r = none) := HZN.out (by have := HG.out; rwa [fg_an (by decide) hz2] at this)
                  have HC : Hid (∀ w', Calls Tryd.prog 9 #[.string Y] w' fun e w'' => e = .returned (.tuple #[.string ⟨#[]⟩, .int .i64 0, .bool false]) ∧ Kept w' w'') := by
                    intro w'
                    have := hrd w'
                    rw [hz2] at this
                    exact this
                  clear hrd hz2 HG
                  go_wp2_with fail
                  refine (HC.out _).mono ?_
                  rintro e w3 ⟨rfl, k3⟩
                  have HF3 := Lib.hid (HF.out.kept k3)
                  have HZZ := Lib.hid (fun w' hw => HF3.out.zero (w2 := w') hw)
                  have fr4 := Blk.frozen HF3.out.br
                  have bc4 := Blk.cell HF3.out.br
                  have z0 : w3.cell? ⟨gr, 0, none⟩ = some (.int .i64 0) := bc4 0
                  have z1 : w3.cell? ⟨gr, 1, none⟩ = some (.slice none 0 0) := bc4 1
                  have z2 : w3.cell? ⟨gr, 2, none⟩ = some (.slice none 0 0) := bc4 2
                  have z3 : w3.cell? ⟨gr, 3, none⟩ = some (.int .i64 0) := bc4 3
                  have z4 : w3.cell? ⟨gr, 4, none⟩ = some (.string ⟨#[]⟩) := bc4 4
                  have z5 : w3.cell? ⟨gr, 5, none⟩ = some (.string ⟨#[]⟩) := bc4 5
                  clear bc4
                  go_wp2_with fail
                  refine body_named ?_
                  intro w9 hw9
                  obtain ⟨hz1, hz2⟩ := HZZ.out w9 hw9
                  have bz := Blk.cell hz1
                  have y0 : w9.cell? ⟨gr, 0, none⟩ = some (.int .i64 0) := bz 0
                  have y1 : w9.cell? ⟨gr, 1, none⟩ = some (.slice none 0 0) := bz 1
                  have y2 : w9.cell? ⟨gr, 2, none⟩ = some (.slice none 0 0) := bz 2
                  have y3 : w9.cell? ⟨gr, 3, none⟩ = some (.int .i64 0) := bz 3
                  have y4 : w9.cell? ⟨gr, 4, none⟩ = some (.string ⟨#[]⟩) := bz 4
                  have y5 : w9.cell? ⟨gr, 5, none⟩ = some (.string ⟨#[]⟩) := bz 5
                  refine bodyPost_ret (v := .tuple #[.agg #[.int .i64 0, .slice none 0 0, .slice none 0 0, .int .i64 0, .string ⟨#[]⟩, .string ⟨#[]⟩], .bool false]) ?_ rfl ?_
                  · simp [results, Tryd.results26, go_sem, y0, y1, y2, y3, y4, y5]
                  · exact StepOf.mk_no HZ.out hz2 (Ov.nil 0) rfl
                | some x =>
                  have hxl := (readF_le hz2).1
                  rw [bytes_len] at hxl
                  have HG3 : Hid (z = fieldsF { o.st with a := x.1 } (sg.drop (j + 1)) (Y.toList.drop x.2)) := by
                    have := HG.out
                    rwa [fg_a hz2] at this
                  have HC : Hid (∀ w', Calls Tryd.prog 9 #[.string Y] w' fun e w'' => e = .returned (.tuple #[.string (strB x.1), .int .i64 (x.2 : Int), .bool true]) ∧ Kept w' w'') := by
                    intro w'
                    have := hrd w'
                    rw [hz2] at this
                    exact this
                  have t1 : (0 : Int) ≤ x.2 := by omega
                  have t2 : (x.2 : Int) ≤ Y.size := by omega
                  have t3 : (x.2 : Int).toNat = x.2 := by omega
                  have hZl := ext_end Y x.2
                  obtain ⟨Z, hZ⟩ : ∃ Z, Y.extract x.2 Y.size = Z := ⟨_, rfl⟩
                  rw [hZ] at hZl
                  have hZs : Z.size ≤ 1000000 := by
                    have := congrArg List.length hZl
                    rw [bytes_len, List.length_drop, bytes_len] at this
                    omega
                  have HR4 : Hid (fieldsF (Ov.st { o with a := x.1 }) (sg.drop (j + 1)) Z.toList = z) := by
                    unfold Hid
                    rw [hZl]
                    exact HG3.out.symm
                  clear hrd hz2 HG hZl
                  go_wp2_with fail
                  refine (HC.out _).mono ?_
                  rintro e w3 ⟨rfl, k3⟩
                  have HF3 := Lib.hid (HF.out.kept k3)
                  have fr := Blk.frozen HF3.out.bo
                  have bc : w3.cell? ⟨go, 4, none⟩ = some (.string (strB o.a)) := Blk.cell HF3.out.bo 4
                  go_upto_region 26 with fail
                  refine wp_named ?_
                  intro w4 hw4
                  have HF4 : Hid (Dx w go gr w4 { o with a := x.1 }) := by
                    rw [hw4]
                    exact HF3.out.put (o' := { o with a := x.1 }) 4 _ rfl HF3.out.ok HF3.out.far
                  clear hw4 bc fr
                  go_wp2_with fail
                  go_roundw
                  case rel => exact ⟨j + 1, Z, { o with a := x.1 }, hp, by rw [← hZ], by go_num, hZs, HF4, HR4⟩
                  case measure =>
                    simp [intOf]
                    omega
              · have hcn : (S[j]'hp).toNat = 116 := by rw [hc]; rfl
                clear hc
                have hrd := fun w' => rread_any Y w' hYs
                cases hz2 : readF Y.toList with
                | none =>
                  have HZ : Hid (r = none) := HZN.out (by have := HG.out; rwa [fg_an (by decide) hz2] at this)
                  have HC : Hid (∀ w', Calls Tryd.prog 9 #[.string Y] w' fun e w'' => e = .returned (.tuple #[.string ⟨#[]⟩, .int .i64 0, .bool false]) ∧ Kept w' w'') := by
                    intro w'
                    have := hrd w'
                    rw [hz2] at this
                    exact this
                  clear hrd hz2 HG
                  go_wp2_with fail
                  refine (HC.out _).mono ?_
                  rintro e w3 ⟨rfl, k3⟩
                  have HF3 := Lib.hid (HF.out.kept k3)
                  have HZZ := Lib.hid (fun w' hw => HF3.out.zero (w2 := w') hw)
                  have fr4 := Blk.frozen HF3.out.br
                  have bc4 := Blk.cell HF3.out.br
                  have z0 : w3.cell? ⟨gr, 0, none⟩ = some (.int .i64 0) := bc4 0
                  have z1 : w3.cell? ⟨gr, 1, none⟩ = some (.slice none 0 0) := bc4 1
                  have z2 : w3.cell? ⟨gr, 2, none⟩ = some (.slice none 0 0) := bc4 2
                  have z3 : w3.cell? ⟨gr, 3, none⟩ = some (.int .i64 0) := bc4 3
                  have z4 : w3.cell? ⟨gr, 4, none⟩ = some (.string ⟨#[]⟩) := bc4 4
                  have z5 : w3.cell? ⟨gr, 5, none⟩ = some (.string ⟨#[]⟩) := bc4 5
                  clear bc4
                  go_wp2_with fail
                  refine body_named ?_
                  intro w9 hw9
                  obtain ⟨hz1, hz2⟩ := HZZ.out w9 hw9
                  have bz := Blk.cell hz1
                  have y0 : w9.cell? ⟨gr, 0, none⟩ = some (.int .i64 0) := bz 0
                  have y1 : w9.cell? ⟨gr, 1, none⟩ = some (.slice none 0 0) := bz 1
                  have y2 : w9.cell? ⟨gr, 2, none⟩ = some (.slice none 0 0) := bz 2
                  have y3 : w9.cell? ⟨gr, 3, none⟩ = some (.int .i64 0) := bz 3
                  have y4 : w9.cell? ⟨gr, 4, none⟩ = some (.string ⟨#[]⟩) := bz 4
                  have y5 : w9.cell? ⟨gr, 5, none⟩ = some (.string ⟨#[]⟩) := bz 5
                  refine bodyPost_ret (v := .tuple #[.agg #[.int .i64 0, .slice none 0 0, .slice none 0 0, .int .i64 0, .string ⟨#[]⟩, .string ⟨#[]⟩], .bool false]) ?_ rfl ?_
                  · simp [results, Tryd.results26, go_sem, y0, y1, y2, y3, y4, y5]
                  · exact StepOf.mk_no HZ.out hz2 (Ov.nil 0) rfl
                | some x =>
                  have hxl := (readF_le hz2).1
                  rw [bytes_len] at hxl
                  have HG3 : Hid (z = fieldsF { o.st with t := x.1 } (sg.drop (j + 1)) (Y.toList.drop x.2)) := by
                    have := HG.out
                    rwa [fg_t hz2] at this
                  have HC : Hid (∀ w', Calls Tryd.prog 9 #[.string Y] w' fun e w'' => e = .returned (.tuple #[.string (strB x.1), .int .i64 (x.2 : Int), .bool true]) ∧ Kept w' w'') := by
                    intro w'
                    have := hrd w'
                    rw [hz2] at this
                    exact this
                  have t1 : (0 : Int) ≤ x.2 := by omega
                  have t2 : (x.2 : Int) ≤ Y.size := by omega
                  have t3 : (x.2 : Int).toNat = x.2 := by omega
                  have hZl := ext_end Y x.2
                  obtain ⟨Z, hZ⟩ : ∃ Z, Y.extract x.2 Y.size = Z := ⟨_, rfl⟩
                  rw [hZ] at hZl
                  have hZs : Z.size ≤ 1000000 := by
                    have := congrArg List.length hZl
                    rw [bytes_len, List.length_drop, bytes_len] at this
                    omega
                  have HR4 : Hid (fieldsF (Ov.st { o with t := x.1 }) (sg.drop (j + 1)) Z.toList = z) := by
                    unfold Hid
                    rw [hZl]
                    exact HG3.out.symm
                  clear hrd hz2 HG hZl
                  go_wp2_with fail
                  refine (HC.out _).mono ?_
                  rintro e w3 ⟨rfl, k3⟩
                  have HF3 := Lib.hid (HF.out.kept k3)
                  have fr := Blk.frozen HF3.out.bo
                  have bc : w3.cell? ⟨go, 5, none⟩ = some (.string (strB o.t)) := Blk.cell HF3.out.bo 5
                  go_upto_region 26 with fail
                  refine wp_named ?_
                  intro w4 hw4
                  have HF4 : Hid (Dx w go gr w4 { o with t := x.1 }) := by
                    rw [hw4]
                    exact HF3.out.put (o' := { o with t := x.1 }) 5 _ rfl HF3.out.ok HF3.out.far
                  clear hw4 bc fr
                  go_wp2_with fail
                  go_roundw
                  case rel => exact ⟨j + 1, Z, { o with t := x.1 }, hp, by rw [← hZ], by go_num, hZs, HF4, HR4⟩
                  case measure =>
                    simp [intOf]
                    omega
          · have l1 : ¬ (j : Int) < S.size := by omega
            have HZ0 : Hid (z = some (o.st, X.toList)) := by
              have := HR2.out
              rw [List.drop_eq_nil_of_le (by rw [← HSL.out, bytes_len]; omega)] at this
              exact this.symm
            have HGB := Lib.hid (fun (w' : World) (hw : w' = opSet wr gr o) => HF.out.gave hw)
            have fr := Blk.frozen HF.out.br
            have bz := Blk.cell HF.out.br
            have z0 : wr.cell? ⟨gr, 0, none⟩ = some (.int .i64 0) := bz 0
            have z1 : wr.cell? ⟨gr, 1, none⟩ = some (.slice none 0 0) := bz 1
            have z2 : wr.cell? ⟨gr, 2, none⟩ = some (.slice none 0 0) := bz 2
            have z3 : wr.cell? ⟨gr, 3, none⟩ = some (.int .i64 0) := bz 3
            have z4 : wr.cell? ⟨gr, 4, none⟩ = some (.string ⟨#[]⟩) := bz 4
            have z5 : wr.cell? ⟨gr, 5, none⟩ = some (.string ⟨#[]⟩) := bz 5
            have bo := Blk.cell HF.out.bo
            have HFAR := Lib.hid HF.out.far
            obtain ⟨ok, oA, oc, op, oB, od, oq, on, oa, ot⟩ := o
            have o0 : wr.cell? ⟨go, 0, none⟩ = some (.int .i64 (ok : Int)) := bo 0
            have o1 : wr.cell? ⟨go, 1, none⟩ = some (.slice oA op.length oc) := bo 1
            have o2 : wr.cell? ⟨go, 2, none⟩ = some (.slice oB oq.length od) := bo 2
            have o3 : wr.cell? ⟨go, 3, none⟩ = some (.int .i64 (on : Int)) := bo 3
            have o4 : wr.cell? ⟨go, 4, none⟩ = some (.string (strB oa)) := bo 4
            have o5 : wr.cell? ⟨go, 5, none⟩ = some (.string (strB ot)) := bo 5
            have n1 : ¬ gr = go := fun e => HF.out.ne e.symm
            have n2 : ¬ go = gr := HF.out.ne
            cases hx : (X.toList == []) with
            | false =>
              have hx2 : X.toList.isEmpty = false := by
                cases hl : X.toList with
                | nil => rw [hl] at hx; cases hx
                | cons _ _ => rfl
              have HZ : Hid (r = none) := HZO.out _ _ HZ0.out (fun e => by rw [e] at hx; cases hx)
              clear bz bo
              go_wp2_with fail
              refine body_named ?_
              intro w2 hw2
              obtain ⟨b2, k2, oo2⟩ := HGB.out w2 hw2
              have HKK := Lib.hid oo2
              have bz := Blk.cell b2
              have y0 : w2.cell? ⟨gr, 0, none⟩ = some (.int .i64 (ok : Int)) := bz 0
              have y1 : w2.cell? ⟨gr, 1, none⟩ = some (.slice oA op.length oc) := bz 1
              have y2 : w2.cell? ⟨gr, 2, none⟩ = some (.slice oB oq.length od) := bz 2
              have y3 : w2.cell? ⟨gr, 3, none⟩ = some (.int .i64 (on : Int)) := bz 3
              have y4 : w2.cell? ⟨gr, 4, none⟩ = some (.string (strB oa)) := bz 4
              have y5 : w2.cell? ⟨gr, 5, none⟩ = some (.string (strB ot)) := bz 5
              clear hw2 bz oo2
              refine bodyPost_ret (v := .tuple #[.agg #[.int .i64 (ok : Int), .slice oA op.length oc, .slice oB oq.length od, .int .i64 (on : Int), .string (strB oa), .string (strB ot)], .bool false]) ?_ rfl ?_
              · simp [results, Tryd.results26, go_sem, y0, y1, y2, y3, y4, y5]
              · exact StepOf.mk_no HZ.out k2 ⟨ok, oA, oc, op, oB, od, oq, on, oa, ot⟩ rfl
            | true =>
              have hx2 : X.toList.isEmpty = true := by
                have : X.toList = [] := by simpa using hx
                rw [this]
                rfl
              have HZ : Hid (r = some (Ov.st ⟨ok, oA, oc, op, oB, od, oq, on, oa, ot⟩)) := HZY.out _ (by
                have h := HZ0.out
                have : X.toList = [] := by simpa using hx
                rw [this] at h
                exact h)
              clear bz bo
              go_wp2_with fail
              refine body_named ?_
              intro w2 hw2
              obtain ⟨b2, k2, oo2⟩ := HGB.out w2 hw2
              have HKK := Lib.hid oo2
              have bz := Blk.cell b2
              have y0 : w2.cell? ⟨gr, 0, none⟩ = some (.int .i64 (ok : Int)) := bz 0
              have y1 : w2.cell? ⟨gr, 1, none⟩ = some (.slice oA op.length oc) := bz 1
              have y2 : w2.cell? ⟨gr, 2, none⟩ = some (.slice oB oq.length od) := bz 2
              have y3 : w2.cell? ⟨gr, 3, none⟩ = some (.int .i64 (on : Int)) := bz 3
              have y4 : w2.cell? ⟨gr, 4, none⟩ = some (.string (strB oa)) := bz 4
              have y5 : w2.cell? ⟨gr, 5, none⟩ = some (.string (strB ot)) := bz 5
              clear hw2 bz oo2
              refine bodyPost_ret (v := .tuple #[.agg #[.int .i64 (ok : Int), .slice oA op.length oc, .slice oB oq.length od, .int .i64 (on : Int), .string (strB oa), .string (strB ot)], .bool true]) ?_ rfl ?_
              · simp [results, Tryd.results26, go_sem, y0, y1, y2, y3, y4, y5]
              · exact StepOf.mk_yes HZ.out k2 ⟨ok, oA, oc, op, oB, od, oq, on, oa, ot⟩ rfl rfl HKK.out ⟨fun b i e => (HFAR.out.1 b i e).2.2, fun b i e => (HFAR.out.2 b i e).2.2⟩
end Go.Proofs.YtmcmicgdkdbgjaaDoor
