/- script.Parse, walked. -/
import Derived.Test.YtmcmicgdkdbgjaaDoorScrI
namespace Go.Proofs.YtmcmicgdkdbgjaaDoor
open Go.RowKit
attribute [local go_sem ↓] Go.wp_at_zero Go.wp_at_succ

theorem appT_ops : AppT Tryd.prog 27 37 6 := appT_mk (z := .agg #[.int .i64 0, .slice none 0 0, .slice none 0 0, .int .i64 0, .string ⟨#[]⟩, .string ⟨#[]⟩]) (bytes := 96) Tryd.underlying27 (by kernel_rfl) rfl (by omega) (by omega)
def Ov.cl (o : Ov) : List Value := o.cells.toList
theorem Ov.ok_kept {o : Ov} {w w' : World} (h : o.ok w) (k : Kept w w') : o.ok w' := ⟨h.1.kept k, h.2.kept k⟩
/-- What Parse gives. -/
def ParseOf (r : Except Nat (List St)) (w : World) (e : Ending) (w' : World) : Prop := Kept w w' ∧ match r with
  | .error k => e = .returned (.tuple #[.slice none 0 0, .int .i64 (k : Int), .int .i64 4])
  | .ok sts => ∃ (VA : Option Addr) (VC : Nat) (L : List Ov), e = .returned (.tuple #[.slice VA L.length VC, .int .i64 0, .int .i64 0]) ∧ Sl w' 6 VA L.length VC (L.flatMap Ov.cl) ∧ L.map Ov.st = sts ∧ ∀ o ∈ L, o.ok w'
/-- Where the reading of the lines stands. -/
def LAt (Ls : List Bs) (k : Nat) (D : List St) : Prop := linesF 1 Ls = match linesF (k + 1) (Ls.drop k) with
  | .ok os => .ok (D ++ os)
  | .error e => .error e
theorem LAt.zero (Ls : List Bs) : LAt Ls 0 [] := by
  unfold LAt
  rw [List.drop_zero]
  cases linesF 1 Ls <;> rfl
theorem drop_l {Ls : List Bs} {k : Nat} {l : Bs} (h : Ls[k]? = some l) : Ls.drop k = l :: Ls.drop (k + 1) := by
  obtain ⟨h1, h2⟩ := List.getElem?_eq_some_iff.1 h
  rw [List.drop_eq_getElem_cons h1, h2]
theorem LAt.skip {Ls : List Bs} {k : Nat} {D : List St} (h : LAt Ls k D) (hl : Ls[k]? = some []) : LAt Ls (k + 1) D := by
  unfold LAt
  rw [h, drop_l hl, linesF, if_pos rfl]
theorem LAt.bad {Ls : List Bs} {k : Nat} {D : List St} {l : Bs} (h : LAt Ls k D) (hl : Ls[k]? = some l) (h0 : l ≠ []) (hs : stepF l = none) : linesF 1 Ls = .error (k + 1) := by
  rw [h, drop_l hl, linesF, if_neg h0, hs]
theorem LAt.good {Ls : List Bs} {k : Nat} {D : List St} {l : Bs} {s : St} (h : LAt Ls k D) (hl : Ls[k]? = some l) (h0 : l ≠ []) (hs : stepF l = some s) : LAt Ls (k + 1) (D ++ [s]) := by
  unfold LAt
  rw [h, drop_l hl, linesF, if_neg h0, hs]
  cases linesF (k + 1 + 1) (Ls.drop (k + 1)) with
  | error e => rfl
  | ok os => simp
theorem LAt.done {Ls : List Bs} {k : Nat} {D : List St} (h : LAt Ls k D) (hk : Ls.length ≤ k) : linesF 1 Ls = .ok D := by
  rw [h, List.drop_eq_nil_of_le hk]
  simp [linesF]
theorem StepOf.no {w w' : World} {e : Ending} (h : StepOf none w e w') : ∃ ov : Ov, e = .returned (.tuple #[ov.val, .bool false]) ∧ Kept w w' := by
  obtain ⟨h1, ov, h2⟩ := h
  exact ⟨ov, h2, h1⟩
theorem StepOf.yes {w w' : World} {e : Ending} {s : St} (h : StepOf (some s) w e w') : ∃ ov : Ov, e = .returned (.tuple #[ov.val, .bool true]) ∧ ov.st = s ∧ ov.ok w' ∧ ov.far (fun b => w.heap.size ≤ b) ∧ Kept w w' := by
  obtain ⟨h1, ov, h2, h3, h4, h5⟩ := h
  exact ⟨ov, h2, h3, h4, h5, h1⟩
theorem sl_grown {w w' : World} {row : Option Nat} {s n c : Nat} {A : Option Addr} {xs : List Value} (h : Sl w s A n c xs) (hg : w.grownBy w' row) (hne : 0 < n → ∀ b o, A = some ⟨b, o, none⟩ → some b ≠ row) : Sl w' s A n c xs :=
  ⟨h.1, h.2.1, h.2.2.1, fun hn => by
    obtain ⟨b, o, e, hc⟩ := h.2.2.2 hn
    exact ⟨b, o, e, fun j u hu => grown_cell hg (hc j u hu) (hne hn b o e)⟩⟩
/-- A step's slices stand off a row. -/
def Ov.off (o : Ov) (v : Value) : Prop := (0 < o.p.length → ∀ b i, o.A = some ⟨b, i, none⟩ → some b ≠ v.ownBlock) ∧ (0 < o.q.length → ∀ b i, o.B = some ⟨b, i, none⟩ → some b ≠ v.ownBlock)
theorem Ov.app {o : Ov} {w3 w4 : World} {v v' : Value} (h : o.ok w3) (ho : o.off v) (hg : w3.grownBy w4 v.ownBlock) (hv : v'.ownBlock = v.ownBlock ∨ ∃ q, v'.ownBlock = some q ∧ w3.heap.size ≤ q) : o.ok w4 ∧ o.off v' := by
  refine ⟨⟨sl_grown h.1 hg ho.1, sl_grown h.2 hg ho.2⟩, ?_, ?_⟩
  · intro hn b i e
    rcases hv with hv | ⟨q, hv, hq⟩
    · rw [hv]
      exact ho.1 hn b i e
    · rw [hv]
      have := h.1.lt (by omega) hn b i e
      intro e2
      have := Option.some.inj e2
      omega
  · intro hn b i e
    rcases hv with hv | ⟨q, hv, hq⟩
    · rw [hv]
      exact ho.2 hn b i e
    · rw [hv]
      have := h.2.lt (by omega) hn b i e
      intro e2
      have := Option.some.inj e2
      omega
set_option maxRecDepth 100000 in
set_option maxHeartbeats 8000000 in
theorem parse_any (s : ByteArray) (w : World) (hs : s.size ≤ 1000000) : Calls Tryd.prog 11 #[.string s] w fun e w' => ParseOf (parseF s.toList) w e w' := by
  obtain ⟨r, hr⟩ : ∃ r, parseF s.toList = r := ⟨_, rfl⟩
  rw [hr]
  have HR := Lib.hid hr
  have HC := Lib.hid (split_any 10 s w hs)
  clear hr
  go_enter Tryd.func11, Tryd.ntmps11
  go_wp2_with fail
  refine HC.out.mono ?_
  rintro e w1 ⟨VA, VC, L, rfl, hL, hLs, k1⟩
  have HLS := Lib.hid hLs
  have hcap := hL.cap
  have hmax := hL.max
  obtain ⟨M, hM⟩ : ∃ M, L.length = M := ⟨_, rfl⟩
  have HM := Lib.hid hM
  have hSZ := split_size hLs
  rw [hM] at hL hcap hSZ ⊢
  have hMb : M ≤ 1000001 := by omega
  have HSZ := Lib.hid hSZ.2
  have HRL : Hid (linesF 1 (L.map (·.toList)) = r) := by
    unfold Hid
    rw [hLs]
    exact HR.out
  clear hLs HC hM hSZ HR
  go_wp2_with fail
  go_loopw [5, 13] (fun v i wr => ∃ (k : Nat) (O : List Ov), k ≤ M ∧ i = .int .i64 k ∧ O.length ≤ k ∧ wr.ownsRow w1.heap.size 37 6 v O.length (O.flatMap Ov.cl) ∧ Kept w1 wr ∧ Hid (LAt (L.map (·.toList)) k (O.map Ov.st)) ∧ Hid (∀ o ∈ O, o.ok wr ∧ o.off v)) (fun _ i _ => M - (intOf i).toNat)
  case atStart => exact ⟨0, [], Nat.zero_le _, rfl, Nat.le_refl _, ⟨rfl, .inl ⟨rfl, rfl⟩⟩, Kept.refl _, LAt.zero _, fun o h => by cases h⟩
  case round =>
    obtain ⟨k, O, hk, rfl, hOk, hown, hk1, HA, HOK⟩ := hrel
    by_cases hlt : k < M
    · obtain ⟨b, o, x, rfl, hx, x0, hb⟩ := (hL.kept hk1).oneb hlt
      have hxl : (L.map (·.toList))[k]? = some x.toList := by rw [List.getElem?_map, hx]; rfl
      have hxs : x.size ≤ 1000000 := Nat.le_trans (HSZ.out x (List.mem_of_getElem? hx)) hs
      have s1 : IntKind.i64.wrap ((k : Int) + 1) = (k : Int) + 1 := IntWalk.i64_in _ (by omega)
      by_cases h0 : x.toList = []
      · have HN : Hid (LAt (L.map (·.toList)) (k + 1) (O.map Ov.st)) := HA.out.skip (by rw [hxl, h0])
        have e1 : (x.toList == []) = true := by rw [h0]; rfl
        have e2 : x.toList.isEmpty = true := by rw [h0]; rfl
        clear hx hxl h0
        go_wp2_with fail
        go_roundw
        case rel => exact ⟨k + 1, O, hlt, by go_num, by omega, hown, hk1, HN, HOK⟩
        case measure =>
          simp [intOf]
          omega
      · have e1 : (x.toList == []) = false := by simpa using h0
        have e2 : x.toList.isEmpty = false := by
          cases hz : x.toList with
          | nil => exact absurd hz h0
          | cons _ _ => rfl
        have hst := step_any x wr hxs
        cases hz : stepF x.toList with
        | none =>
          have HZ : Hid (r = .error (k + 1)) := by rw [← HRL.out]; exact HA.out.bad hxl h0 hz
          rw [hz] at hst
          have HST := Lib.hid hst
          clear hst hx hxl h0 hz
          go_wp2_with fail
          refine HST.out.mono ?_
          intro e w2 hS
          obtain ⟨⟨ok, oA, oc, op, oB, od, oq, on, oa, ot⟩, he, k2⟩ := hS.no
          have he2 : e = .returned (.tuple #[.agg #[.int .i64 (ok : Int), .slice oA op.length oc, .slice oB oq.length od, .int .i64 (on : Int), .string (strB oa), .string (strB ot)], .bool false]) := he
          clear he hS
          subst he2
          go_wp2_with fail
          go_ret3
          refine ⟨((k1.trans hk1).trans k2).alloc _, ?_⟩
          rw [HZ.out]
          rfl
        | some st =>
          have HN : Hid (LAt (L.map (·.toList)) (k + 1) (O.map Ov.st ++ [st])) := HA.out.good hxl h0 hz
          rw [hz] at hst
          have HST := Lib.hid hst
          clear hst hx hxl h0 hz
          go_wp2_with fail
          refine HST.out.mono ?_
          intro e w2 hS
          obtain ⟨⟨ok, oA, oc, op, oB, od, oq, on, oa, ot⟩, he, hst, hok, hfar, k2⟩ := hS.yes
          have he2 : e = .returned (.tuple #[.agg #[.int .i64 (ok : Int), .slice oA op.length oc, .slice oB oq.length od, .int .i64 (on : Int), .string (strB oa), .string (strB ot)], .bool true]) := he
          have HOV := Lib.hid (show _ ∧ _ from ⟨hst, hok⟩)
          have HFR := Lib.hid hfar
          clear he hS hst hok hfar
          subst he2
          have kb : Kept w2 _ := (Kept.refl w2).alloc (.cells #[.int .i64 (ok : Int), .slice oA op.length oc, .slice oB oq.length od, .int .i64 (on : Int), .string (strB oa), .string (strB ot)] 37)
          have bx := Blk.new w2 #[.int .i64 (ok : Int), .slice oA op.length oc, .slice oB oq.length od, .int .i64 (on : Int), .string (strB oa), .string (strB ot)] 37
          go_upto_region 9 with fail
          generalize w2.alloc (.cells #[.int .i64 (ok : Int), .slice oA op.length oc, .slice oB oq.length od, .int .i64 (on : Int), .string (strB oa), .string (strB ot)] 37) = w3 at kb bx ⊢
          obtain ⟨g3, hg3⟩ : ∃ g3, w2.heap.size = g3 := ⟨_, rfl⟩
          rw [hg3] at bx ⊢
          clear hg3
          have bc := Blk.cell bx
          have y0 : w3.cell? ⟨g3, 0, none⟩ = some (.int .i64 (ok : Int)) := bc 0
          have y1 : w3.cell? ⟨g3, 1, none⟩ = some (.slice oA op.length oc) := bc 1
          have y2 : w3.cell? ⟨g3, 2, none⟩ = some (.slice oB oq.length od) := bc 2
          have y3 : w3.cell? ⟨g3, 3, none⟩ = some (.int .i64 (on : Int)) := bc 3
          have y4 : w3.cell? ⟨g3, 4, none⟩ = some (.string (strB oa)) := bc 4
          have y5 : w3.cell? ⟨g3, 5, none⟩ = some (.string (strB ot)) := bc 5
          have hk3 := (hk1.trans k2).trans kb
          have hown3 := own_kept (own_kept hown k2) kb
          have HK23 := Lib.hid (k2.trans kb)
          clear bc
          go_wp2_with (at_builtin; refine wpList_push w1 (by rfl) _ _ (by rfl) appT_ops (by rfl) hown3 hk3 (by rfl) ?_ ?_; (exact ⟨by rfl, by rfl, by rfl, by omega⟩); intro v' w4 hown4 hk4 hgr4 hob4)
          have hv4 : v'.ownBlock = u5.ownBlock ∨ ∃ q, v'.ownBlock = some q ∧ (w3.alloc (.cells [.int .i64 (ok : Int), .slice oA op.length oc, .slice oB oq.length od, .int .i64 (on : Int), .string (strB oa), .string (strB ot)].toArray 37)).heap.size ≤ q := by
            rcases hob4 with h | h
            · exact .inl h
            · exact .inr ⟨_, h, by simp⟩
          have HALL : Hid (∀ o ∈ O ++ [⟨ok, oA, oc, op, oB, od, oq, on, oa, ot⟩], o.ok w4 ∧ o.off v') := by
            intro o ho
            rcases List.mem_append.1 ho with ho | ho
            · have h := HOK.out o ho
              exact Ov.app (Ov.ok_kept (Ov.ok_kept h.1 HK23.out) ((Kept.refl _).alloc _)) h.2 hgr4 hv4
            · rw [List.mem_singleton.1 ho]
              refine Ov.app (Ov.ok_kept (Ov.ok_kept HOV.out.2 kb) ((Kept.refl _).alloc _)) ⟨fun _ b i e e2 => ?_, fun _ b i e e2 => ?_⟩ hgr4 hv4
              · have h1 := HFR.out.1 b i e
                have h2 := hown.lt b e2.symm
                omega
              · have h1 := HFR.out.2 b i e
                have h2 := hown.lt b e2.symm
                omega
          clear hgr4 hob4 hv4
          go_roundw
          case rel =>
            refine ⟨k + 1, O ++ [⟨ok, oA, oc, op, oB, od, oq, on, oa, ot⟩], hlt, by go_num, by rw [List.length_append, List.length_singleton]; omega, by rw [List.length_append, List.flatMap_append]; exact hown4, hk4, ?_, HALL⟩
            unfold Hid
            rw [List.map_append]
            have h1 := HOV.out.1
            show LAt _ _ (O.map Ov.st ++ [Ov.st ⟨ok, oA, oc, op, oB, od, oq, on, oa, ot⟩])
            rw [h1]
            exact HN.out
          case measure =>
            simp [intOf]
            omega
    · obtain rfl : k = M := by omega
      have HZ : Hid (r = .ok (O.map Ov.st)) := by
        rw [← HRL.out]
        exact HA.out.done (by rw [List.length_map, HM.out]; exact Nat.le_refl _)
      obtain ⟨NA, NC, rfl, hNs⟩ := Sl.of_own hown
      clear HRL
      go_wp2_with fail
      go_ret3
      refine ⟨k1.trans hk1, ?_⟩
      rw [HZ.out]
      exact ⟨NA, NC, O, rfl, hNs, rfl, fun o ho => (HOK.out o ho).1⟩
end Go.Proofs.YtmcmicgdkdbgjaaDoor
