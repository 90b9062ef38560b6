/- The document's Parse: walked. -/
import Derived.Test.YtmcmicgdkdbgjaaDoorScrO
namespace Go.Proofs.YtmcmicgdkdbgjaaDoor
open Go.RowKit
attribute [local go_sem ↓] Go.wp_at_zero Go.wp_at_succ

theorem appT_rops : AppT Tryd.prog 31 38 6 := appT_mk (z := .agg #[.int .i64 0, .slice none 0 0, .slice none 0 0, .int .i64 0, .string ⟨#[]⟩, .string ⟨#[]⟩]) (bytes := 96) Tryd.underlying31 (by kernel_rfl) rfl (by omega) (by omega)
/-- What the document's Parse gives. -/
def RParseOf (r : Except Nat (List St)) (w : World) (e : Ending) (w' : World) : Prop := Kept w w' ∧ match r with
  | .error k => e = .returned (.tuple #[.slice none 0 0, .int .i64 (k : Int)])
  | .ok sts => ∃ (VA : Option Addr) (VC : Nat) (L : List Ov), e = .returned (.tuple #[.slice VA L.length VC, .int .i64 0]) ∧ Sl w' 6 VA L.length VC (L.flatMap Ov.cl) ∧ L.map Ov.st = sts ∧ ∀ o ∈ L, o.ok w'
/-- Where the document's reading of the lines stands: at a byte, a line begun, some steps done. -/
def MAt (S : Bs) (i : Nat) (W : Bs) (n : Nat) (D : List St) : Prop := (i ≤ S.length ∧ W.length ≤ i ∧ n ≤ i + 1 ∧ parseF S = match linesF n (preF W (splitF 10 (S.drop i))) with
  | .ok os => .ok (D ++ os)
  | .error e => .error e) ∨ (i = S.length + 1 ∧ W = [] ∧ n ≤ i + 1 ∧ parseF S = .ok D)
theorem MAt.zero (S : Bs) : MAt S 0 [] 1 [] := by
  refine .inl ⟨Nat.zero_le _, Nat.le_refl _, by omega, ?_⟩
  rw [List.drop_zero, pre_nil]
  unfold parseF
  cases linesF 1 (splitF 10 S) <;> rfl
theorem MAt.more {S W : Bs} {i n : Nat} {D : List St} {b : UInt8} (h : MAt S i W n D) (hb : S[i]? = some b) (hne : b ≠ 10) : MAt S (i + 1) (W ++ [b]) n D := by
  have hi := (List.getElem?_eq_some_iff.1 hb).1
  rcases h with ⟨h1, hw, hn, h3⟩ | ⟨h1, _⟩
  · refine .inl ⟨hi, by rw [List.length_append, List.length_singleton]; omega, by omega, ?_⟩
    rw [h3, drop_at hb, pre_more W _ hne]
  · omega
/-- A line's end: what is left of it. -/
theorem MAt.cut {S W : Bs} {i n : Nat} {D : List St} (h : MAt S i W n D) (hi : S[i]? = some 10 ∨ i = S.length) : ∃ ls : List Bs, (parseF S = match linesF n (W :: ls) with
    | .ok os => .ok (D ++ os)
    | .error e => .error e) ∧ ((S[i]? = some 10 ∧ ls = splitF 10 (S.drop (i + 1)) ∧ i < S.length) ∨ (i = S.length ∧ ls = [])) ∧ n ≤ i + 1 := by
  rcases h with ⟨h1, hw, hn, h3⟩ | ⟨h1, _⟩
  · rcases hi with hb | hi
    · refine ⟨splitF 10 (S.drop (i + 1)), ?_, .inl ⟨hb, rfl, (List.getElem?_eq_some_iff.1 hb).1⟩, hn⟩
      rw [h3, drop_at hb, pre_hit]
    · refine ⟨[], ?_, .inr ⟨hi, rfl⟩, hn⟩
      rw [h3, hi, List.drop_length, pre_end]
  · rcases hi with hb | hi
    · have := (List.getElem?_eq_some_iff.1 hb).1
      omega
    · omega
theorem MAt.on {S : Bs} {i n : Nat} {D : List St} {ls : List Bs} (hls : (S[i]? = some 10 ∧ ls = splitF 10 (S.drop (i + 1)) ∧ i < S.length) ∨ (i = S.length ∧ ls = [])) (hn : n ≤ i + 1) (hp : parseF S = match linesF (n + 1) ls with
    | .ok os => .ok (D ++ os)
    | .error e => .error e) : MAt S (i + 1) [] (n + 1) D := by
  rcases hls with ⟨hb, rfl, hi⟩ | ⟨hi, rfl⟩
  · exact .inl ⟨hi, Nat.zero_le _, by omega, by rw [pre_nil]; exact hp⟩
  · refine .inr ⟨by omega, rfl, by omega, ?_⟩
    rw [hp]
    simp [linesF]
theorem MAt.skip {S : Bs} {i n : Nat} {D : List St} (h : MAt S i [] n D) (hi : S[i]? = some 10 ∨ i = S.length) : MAt S (i + 1) [] (n + 1) D := by
  obtain ⟨ls, h1, h2, h3⟩ := h.cut hi
  refine MAt.on h2 h3 ?_
  rw [h1, linesF, if_pos rfl]
theorem MAt.bad {S W : Bs} {i n : Nat} {D : List St} (h : MAt S i W n D) (hi : S[i]? = some 10 ∨ i = S.length) (h0 : W ≠ []) (hs : stepF W = none) : parseF S = .error n := by
  obtain ⟨ls, h1, h2, h3⟩ := h.cut hi
  rw [h1, linesF, if_neg h0, hs]
theorem MAt.good {S W : Bs} {i n : Nat} {D : List St} {s : St} (h : MAt S i W n D) (hi : S[i]? = some 10 ∨ i = S.length) (h0 : W ≠ []) (hs : stepF W = some s) : MAt S (i + 1) [] (n + 1) (D ++ [s]) := by
  obtain ⟨ls, h1, h2, h3⟩ := h.cut hi
  refine MAt.on h2 h3 ?_
  rw [h1, linesF, if_neg h0, hs]
  cases linesF (n + 1) ls with
  | error e => rfl
  | ok os => simp
theorem MAt.fin {S W : Bs} {i n : Nat} {D : List St} (h : MAt S i W n D) (hi : S.length < i) : parseF S = .ok D := by
  rcases h with ⟨h1, _⟩ | ⟨_, _, _, h2⟩
  · omega
  · exact h2
set_option maxRecDepth 100000 in
set_option maxHeartbeats 8000000 in
theorem dparse_any (s : ByteArray) (w : World) (hs : s.size ≤ 1000000) : Calls Tryd.prog 12 #[.string s] w fun e w' => RParseOf (parseF s.toList) w e w' := by
  obtain ⟨r, hr⟩ : ∃ r, parseF s.toList = r := ⟨_, rfl⟩
  rw [hr]
  have HR := Lib.hid hr
  have HL := Lib.hid (bytes_len s)
  have e0 : (⟨#[]⟩ : ByteArray).toList = [] := by rw [ByteArray.toList_eq]
  have HE0 := Lib.hid e0
  clear hr e0
  go_enter Tryd.func12, Tryd.ntmps12
  go_wp2_with fail
  go_loopw [4, 5, 6, 7] (fun v u m i wr => ∃ (k n : Nat) (W : ByteArray) (O : List Ov), k ≤ s.size + 1 ∧ i = .int .i64 k ∧ m = .int .i64 n ∧ u = .string W ∧ W.size ≤ k ∧ n ≤ k + 1 ∧ O.length ≤ k ∧ wr.ownsRow w.heap.size 38 6 v O.length (O.flatMap Ov.cl) ∧ Kept w wr ∧ Hid (MAt s.toList k W.toList n (O.map Ov.st)) ∧ Hid (∀ o ∈ O, o.ok wr ∧ o.off v)) (fun _ _ _ i _ => s.size + 1 - (intOf i).toNat)
  case atStart => exact ⟨0, 1, ⟨#[]⟩, [], Nat.zero_le _, rfl, rfl, rfl, Nat.le_refl _, Nat.le_refl _, Nat.le_refl _, ⟨rfl, .inl ⟨rfl, rfl⟩⟩, Kept.refl _, by unfold Hid; rw [HE0.out]; exact MAt.zero _, fun o h => by cases h⟩
  case round =>
    obtain ⟨k, n, W, O, hk, rfl, rfl, rfl, hWk, hnk, hOk, hown, hkept, HA, HOK⟩ := hrel
    have s1 : IntKind.i64.wrap ((k : Int) + 1) = (k : Int) + 1 := IntWalk.i64_in _ (by omega)
    have s2 : IntKind.i64.wrap ((n : Int) + 1) = (n : Int) + 1 := IntWalk.i64_in _ (by omega)
    by_cases hle : k ≤ s.size
    · have l1 : (k : Int) ≤ s.size := by omega
      by_cases hmore : ∃ h : k < s.size, s[k]'h ≠ 10
      · obtain ⟨hlt, hne⟩ := hmore
        have l2 : (k : Int) < s.size := by omega
        have l3 : (0 : Int) ≤ k := by omega
        have l4 : (k : Int) ≤ (k : Int) + 1 := by omega
        have l5 : (k : Int) + 1 ≤ s.size := by omega
        have l6 : ((k : Int) + 1).toNat = k + 1 := by omega
        have l7 : (0 : Int) ≤ (k : Int) + 1 := by omega
        have hx := ext1 hlt
        have HN : Hid (MAt s.toList (k + 1) (W ++ s.extract k (k + 1)).toList n (O.map Ov.st)) := by
          have := HA.out.more (bytes_get hlt) hne
          unfold Hid
          rw [toList_app, hx]
          exact this
        have hsz : (s.extract k (k + 1)).size = 1 := by
          rw [← bytes_len, hx]
          rfl
        have d1 : (((s[k]'hlt).toNat : Int) != 10) = true := by
          simp
          intro e
          exact hne (UInt8.toNat_inj.1 (by show _ = 10; omega))
        obtain ⟨x, hx2⟩ : ∃ x, s.extract k (k + 1) = x := ⟨_, rfl⟩
        rw [hx2] at HN hsz
        have hss : ¬ (9223372036854775807 < W.size + x.size) := by omega
        clear hx hne
        go_wp2_with fail
        go_roundw
        case rel => exact ⟨k + 1, n, W ++ x, O, by omega, by go_num, rfl, by rw [← hx2], by rw [ByteArray.size_append]; omega, by omega, by omega, hown, hkept, HN, HOK⟩
        case measure =>
          simp [intOf]
          omega
      · have hi : s.toList[k]? = some 10 ∨ k = s.toList.length := by
          rcases Nat.lt_or_ge k s.size with h | h
          · left
            rw [bytes_get h]
            congr 1
            exact Decidable.byContradiction fun hn => hmore ⟨h, hn⟩
          · right
            rw [bytes_len]
            omega
        have HI := Lib.hid hi
        have HM := Lib.hid hmore
        have HOWN := Lib.hid hown
        clear hi hmore
        go_upto_region 7 with fail
        go_cut [25] (fun q wx => q = .bool false ∧ wx = wr)
        case first =>
          rcases Nat.lt_or_ge k s.size with h | h
          · have l2 : (k : Int) < s.size := by omega
            have l3 : (0 : Int) ≤ k := by omega
            have d1 : (((s[k]'h).toNat : Int) != 10) = false := by
              have hc : s[k]'h = 10 := Decidable.byContradiction fun hn => HM.out ⟨h, hn⟩
              rw [hc]
              rfl
            go_wp2_with fail
            go_meet
            exact ⟨rfl, rfl⟩
          · have l2 : ¬ (k : Int) < s.size := by omega
            go_wp2_with fail
            go_meet
            exact ⟨rfl, rfl⟩
        case rest =>
        obtain ⟨rfl, rfl⟩ := hcut
        obtain ⟨wr, hwr⟩ : ∃ z, z = wc := ⟨_, rfl⟩
        subst hwr
        by_cases h0 : W.toList = []
        · have HN : Hid (MAt s.toList (k + 1) [] (n + 1) (O.map Ov.st)) := by
            have h := HA.out
            rw [h0] at h
            exact h.skip HI.out
          have e1 : (W.toList == []) = true := by rw [h0]; rfl
          have e2 : W.toList.isEmpty = true := by rw [h0]; rfl
          have e3 : (W.toList != []) = false := by rw [h0]; rfl
          clear h0
          go_wp2_with fail
          go_roundw
          case rel => exact ⟨k + 1, n + 1, ⟨#[]⟩, O, by omega, by go_num, by go_num, rfl, Nat.zero_le _, by omega, by omega, hown, hkept, by unfold Hid; rw [HE0.out]; exact HN.out, HOK⟩
          case measure =>
            simp [intOf]
            omega
        · have e1 : (W.toList == []) = false := by simpa using h0
          have e3 : (W.toList != []) = true := by simpa using h0
          have e2 : W.toList.isEmpty = false := by
            cases hz : W.toList with
            | nil => exact absurd hz h0
            | cons _ _ => rfl
          have hWs : W.size ≤ 1000001 := by omega
          have hWs2 : W.size ≤ 1000000 := by omega
          have hst := fun w' => dstep_any W w' hWs2
          cases hz : stepF W.toList with
          | none =>
            have HZ : Hid (r = .error n) := by rw [← HR.out]; exact HA.out.bad HI.out h0 hz
            rw [hz] at hst
            have HST := Lib.hid hst
            clear hst h0 hz
            go_wp2_with fail
            refine (HST.out _).mono ?_
            intro e w2 hS
            obtain ⟨⟨ok, oA, oc, op, oB, od, oq, on, oa, ot⟩, he, k2⟩ := hS.no
            have he2 : e = .returned (.tuple #[.agg #[.int .i64 (ok : Int), .slice oA op.length oc, .slice oB oq.length od, .int .i64 (on : Int), .string (strB oa), .string (strB ot)], .bool false]) := he
            clear he hS
            subst he2
            go_wp2_with fail
            go_ret2
            refine ⟨(hkept.trans k2).alloc _, ?_⟩
            rw [HZ.out]
            rfl
          | some st =>
            have HN : Hid (MAt s.toList (k + 1) [] (n + 1) (O.map Ov.st ++ [st])) := HA.out.good HI.out h0 hz
            rw [hz] at hst
            have HST := Lib.hid hst
            clear hst h0 hz
            go_wp2_with fail
            refine (HST.out _).mono ?_
            intro e w2 hS
            obtain ⟨⟨ok, oA, oc, op, oB, od, oq, on, oa, ot⟩, he, hst, hok, hfar, k2⟩ := hS.yes
            have he2 : e = .returned (.tuple #[.agg #[.int .i64 (ok : Int), .slice oA op.length oc, .slice oB oq.length od, .int .i64 (on : Int), .string (strB oa), .string (strB ot)], .bool true]) := he
            have HOV := Lib.hid (show _ ∧ _ from ⟨hst, hok⟩)
            have HFR := Lib.hid hfar
            clear he hS hst hok hfar
            subst he2
            have kb : Kept w2 _ := (Kept.refl w2).alloc (.cells #[.int .i64 (ok : Int), .slice oA op.length oc, .slice oB oq.length od, .int .i64 (on : Int), .string (strB oa), .string (strB ot)] 38)
            have bx := Blk.new w2 #[.int .i64 (ok : Int), .slice oA op.length oc, .slice oB oq.length od, .int .i64 (on : Int), .string (strB oa), .string (strB ot)] 38
            go_upto_region 13 with fail
            generalize w2.alloc (.cells #[.int .i64 (ok : Int), .slice oA op.length oc, .slice oB oq.length od, .int .i64 (on : Int), .string (strB oa), .string (strB ot)] 38) = w3 at kb bx ⊢
            obtain ⟨g3, hg3⟩ : ∃ g3, w2.heap.size = g3 := ⟨_, rfl⟩
            rw [hg3] at bx ⊢
            clear hg3
            have bc := Blk.cell bx
            have y0 : w3.cell? ⟨g3, 0, none⟩ = some (.int .i64 (ok : Int)) := bc 0
            have y1 : w3.cell? ⟨g3, 1, none⟩ = some (.slice oA op.length oc) := bc 1
            have y2 : w3.cell? ⟨g3, 2, none⟩ = some (.slice oB oq.length od) := bc 2
            have y3 : w3.cell? ⟨g3, 3, none⟩ = some (.int .i64 (on : Int)) := bc 3
            have y4 : w3.cell? ⟨g3, 4, none⟩ = some (.string (strB oa)) := bc 4
            have y5 : w3.cell? ⟨g3, 5, none⟩ = some (.string (strB ot)) := bc 5
            have hk3 := (hkept.trans k2).trans kb
            have hown3 := own_kept (own_kept hown k2) kb
            have HK23 := Lib.hid (k2.trans kb)
            clear bc
            go_wp2_with (at_builtin; refine wpList_push w (by rfl) _ _ (by rfl) appT_rops (by rfl) hown3 hk3 (by rfl) ?_ ?_; (exact ⟨by rfl, by rfl, by rfl, by omega⟩); intro v' w4 hown4 hk4 hgr4 hob4)
            have hv4 : v'.ownBlock = u4.ownBlock ∨ ∃ q, v'.ownBlock = some q ∧ (w3.alloc (.cells [.int .i64 (ok : Int), .slice oA op.length oc, .slice oB oq.length od, .int .i64 (on : Int), .string (strB oa), .string (strB ot)].toArray 38)).heap.size ≤ q := by
              rcases hob4 with h | h
              · exact .inl h
              · exact .inr ⟨_, h, by simp⟩
            have HALL : Hid (∀ o ∈ O ++ [⟨ok, oA, oc, op, oB, od, oq, on, oa, ot⟩], o.ok w4 ∧ o.off v') := by
              intro o ho
              rcases List.mem_append.1 ho with ho | ho
              · have h := HOK.out o ho
                exact Ov.app (Ov.ok_kept (Ov.ok_kept h.1 HK23.out) ((Kept.refl _).alloc _)) h.2 hgr4 hv4
              · rw [List.mem_singleton.1 ho]
                refine Ov.app (Ov.ok_kept (Ov.ok_kept HOV.out.2 kb) ((Kept.refl _).alloc _)) ⟨fun _ b i e e2 => ?_, fun _ b i e e2 => ?_⟩ hgr4 hv4
                · have h1 := HFR.out.1 b i e
                  have h2 := HOWN.out.lt b e2.symm
                  omega
                · have h1 := HFR.out.2 b i e
                  have h2 := HOWN.out.lt b e2.symm
                  omega
            clear hgr4 hob4 hv4
            go_roundw
            case rel =>
              refine ⟨k + 1, n + 1, ⟨#[]⟩, O ++ [⟨ok, oA, oc, op, oB, od, oq, on, oa, ot⟩], by omega, by go_num, by go_num, rfl, Nat.zero_le _, by omega, by rw [List.length_append, List.length_singleton]; omega, by rw [List.length_append, List.flatMap_append]; exact hown4, hk4, ?_, HALL⟩
              unfold Hid
              rw [HE0.out, List.map_append]
              have h1 := HOV.out.1
              show MAt _ _ _ _ (O.map Ov.st ++ [Ov.st ⟨ok, oA, oc, op, oB, od, oq, on, oa, ot⟩])
              rw [h1]
              exact HN.out
            case measure =>
              simp [intOf]
              omega
    · have l1 : ¬ (k : Int) ≤ s.size := by omega
      have HZ : Hid (r = .ok (O.map Ov.st)) := by
        rw [← HR.out]
        exact HA.out.fin (by rw [HL.out]; omega)
      obtain ⟨NA, NC, hNv, hNs⟩ := Sl.of_own hown
      subst hNv
      go_wp2_with fail
      go_ret2
      refine ⟨hkept, ?_⟩
      rw [HZ.out]
      exact ⟨NA, NC, O, rfl, hNs, rfl, fun o ho => (HOK.out o ho).1⟩
end Go.Proofs.YtmcmicgdkdbgjaaDoor
