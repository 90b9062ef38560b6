/- The document's wrong, Push, Find, New (layer 19): walked. -/
import Derived.Test.YtdlgjbijnhfbhaaScoF
namespace Go.Proofs.Ytdlgjbijnhfbhaa
open Go.RowKit
attribute [local go_sem ↓] Go.wp_at_zero Go.wp_at_succ

set_option maxHeartbeats 8000000 in
theorem rwrong_any (b : Bd) (A : Option Addr) (n c : Nat) (L : List Bd) (w : World) (h : Sl w 2 A n c (L.flatMap Bd.cells)) :
    Calls Try.prog 35 #[.agg #[.string b.p, .string b.u], .slice A n c] w fun e w' => e = .returned (.int .i64 (wrongF b L)) ∧ Kept w w' := by
  have HW : Hid (wrongF b L = if eqL b.p lXmlns || eqL b.u lXMLNS then 1 else if eqL b.p lXml != eqL b.u lXML then 2 else if !eqL b.p [] && eqL b.u [] then 3 else if L.any (fun o => eqS o.p b.p) then 4 else 0) := rfl
  have hL := h.llen (enc := Bd.cells) (fun _ => rfl) (by omega)
  have HL := Lib.hid hL
  have hcap := h.cap
  have hmax := h.max
  clear hL
  have k1 := (Kept.refl w).alloc (.cells #[.string b.p, .string b.u] 46)
  have bx := Blk.new w #[.string b.p, .string b.u] 46
  go_enter Try.func35, Try.ntmps35
  go_upto_region 1 with fail
  generalize w.alloc (.cells #[.string b.p, .string b.u] 46) = w1 at k1 bx ⊢
  obtain ⟨g, hg⟩ : ∃ g, w.heap.size = g := ⟨_, rfl⟩
  rw [hg] at bx ⊢
  clear hg
  have bf := bx.cell
  have h1 := h.kept k1
  obtain ⟨c1, hc1⟩ : ∃ c1, (eqL b.p lXmlns || eqL b.u lXMLNS) = c1 := ⟨_, rfl⟩
  obtain ⟨c2, hc2⟩ : ∃ c2, (eqL b.p lXml != eqL b.u lXML) = c2 := ⟨_, rfl⟩
  obtain ⟨c3, hc3⟩ : ∃ c3, (!eqL b.p [] && eqL b.u []) = c3 := ⟨_, rfl⟩
  obtain ⟨cX, hcX⟩ : ∃ cX, eqL b.u lXML = cX := ⟨_, rfl⟩
  rw [hc1, hc2, hc3] at HW
  rw [hcX] at hc2
  have H1 := Lib.hid hc1
  have H2 := Lib.hid hc2
  have H3 := Lib.hid hc3
  have HX := Lib.hid hcX
  clear hc1 hc2 hc3 hcX
  go_cut [5] (fun s wx => s = .bool cX ∧ wx = w1)
  case first =>
    have t1' : (b.u.toList == [104, 116, 116, 112, 58, 47, 47, 119, 119, 119, 46, 119, 51, 46, 111, 114, 103, 47, 88, 77, 76, 47, 49, 57, 57, 56, 47, 110, 97, 109, 101, 115, 112, 97, 99, 101]) = cX := HX.out
    go_wp2_with fail
    go_meet
    exact ⟨rfl, rfl⟩
  case rest =>
  obtain ⟨rfl, rfl⟩ := hcut
  go_upto_region 2 with fail
  go_cut [18] (fun s wx => s = .bool c1 ∧ wx = wc)
  case first =>
    cases t1 : eqL b.p lXmlns
    all_goals
      have hz := H1.out
      rw [t1] at hz
      have t1' : (b.p.toList == [120, 109, 108, 110, 115]) = _ := t1
      clear t1 bx h1
    · have hz' : (b.u.toList == [104, 116, 116, 112, 58, 47, 47, 119, 119, 119, 46, 119, 51, 46, 111, 114, 103, 47, 50, 48, 48, 48, 47, 120, 109, 108, 110, 115, 47]) = c1 := hz
      clear hz
      go_wp2_with fail
      go_meet
      exact ⟨rfl, rfl⟩
    · have HC := Lib.hid (show true = c1 from hz)
      clear hz
      go_wp2_with fail
      go_meet
      exact ⟨congrArg _ HC.out, rfl⟩
  case rest =>
    obtain ⟨rfl, rfl⟩ := hcut
    cases c1
    rotate_left
    · go_wp2_with fail
      go_ret
      exact ⟨ret_code (by rw [HW.out]; rfl), k1⟩
    go_upto_region 4 with fail
    go_cut [33] (fun s wx => s = .bool c2 ∧ wx = wc)
    case first =>
      cases t1 : eqL b.p lXml
      all_goals
        have hz := H2.out
        rw [t1] at hz
        have t1' : (b.p.toList == [120, 109, 108]) = _ := t1
        have t1'' : (b.p.toList != [120, 109, 108]) = _ := congrArg (fun z => !z) t1'
        cases cX
        all_goals
          have HC := Lib.hid hz
          clear t1 hz bx h1
          go_wp2_with fail
          go_meet
          exact ⟨congrArg _ HC.out, rfl⟩
    case rest =>
      obtain ⟨rfl, rfl⟩ := hcut
      cases c2
      rotate_left
      · go_wp2_with fail
        go_ret
        exact ⟨ret_code (by rw [HW.out]; rfl), k1⟩
      go_upto_region 6 with fail
      go_cut [41] (fun s wx => s = .bool c3 ∧ wx = wc)
      case first =>
        cases t1 : eqL b.p []
        all_goals
          have hz := H3.out
          rw [t1] at hz
          have t1' : (b.p.toList == []) = _ := t1
          have t1'' : b.p.toList.isEmpty = _ := (isEmpty_eq _).trans t1'
          cases t2 : eqL b.u []
          all_goals
            rw [t2] at hz
            have HC := Lib.hid hz
            have t2' : (b.u.toList == []) = _ := t2
            have t2'' : b.u.toList.isEmpty = _ := (isEmpty_eq _).trans t2'
            clear t1 t2 hz bx h1
            go_wp2_with fail
            go_meet
            exact ⟨congrArg _ HC.out, rfl⟩
      case rest =>
        obtain ⟨rfl, rfl⟩ := hcut
        cases c3
        rotate_left
        · go_wp2_with fail
          go_ret
          exact ⟨ret_code (by rw [HW.out]; rfl), k1⟩
        obtain ⟨w2, hw2⟩ : ∃ z, z = wc := ⟨_, rfl⟩
        subst hw2
        go_wp2_with fail
        go_loopw [44] (fun i wr => ∃ k : Nat, k ≤ n ∧ i = .int .i64 k ∧ Kept w2 wr ∧ Hid ((L.take k).any (fun o => eqS o.p b.p) = false)) (fun i _ => n - (intOf i).toNat)
        case atStart => exact ⟨0, Nat.zero_le _, rfl, Kept.refl _, rfl⟩
        case round =>
          obtain ⟨k, hk, rfl, hkept, hinv⟩ := hrel
          have bf2 := (bx.kept hkept).cell
          have hgl := (bx.kept hkept).lt
          by_cases hlt : k < n
          · obtain ⟨b', o, x, rfl, hx, c0, c1, hb⟩ := elem_bd (h1.kept hkept) hlt
            have HX2 := Lib.hid hx
            clear hx
            cases hbad : eqS x.p b.p
            · have hz : (x.p.toList == b.p.toList) = false := hbad
              have HB := Lib.hid hbad
              clear hbad
              go_wp2_with fail
              go_roundw
              case rel =>
                refine ⟨k + 1, hlt, by go_num, hkept.alloc _, ?_⟩
                unfold Hid
                rw [List.take_add_one, HX2.out, List.any_append, hinv.out]
                simp [HB.out]
              case measure =>
                simp [intOf]
                omega
            · have hz : (x.p.toList == b.p.toList) = true := hbad
              have ha : L.any (fun o => eqS o.p b.p) = true := by
                rw [List.any_eq_true]
                exact ⟨x, List.mem_of_getElem? HX2.out, hbad⟩
              have HA := Lib.hid ha
              clear hbad ha
              go_wp2_with fail
              go_ret
              exact ⟨ret_code (by rw [HW.out, HA.out]; rfl), (k1.trans hkept).alloc _⟩
          · have ha := hinv.out
            rw [List.take_of_length_le (by have := HL.out; omega)] at ha
            have HA := Lib.hid ha
            clear ha hinv
            go_wp2_with fail
            go_ret
            exact ⟨ret_code (by rw [HW.out, HA.out]; rfl), k1.trans hkept⟩

theorem rnew_any (w : World) : Calls Try.prog 21 #[] w fun e w' => ∃ A c, e = .returned (.slice A 2 c) ∧ Sl w' 2 A 2 c (root.flatMap Bd.cells) ∧ Kept w w' := by
  have hS := Sl.litf (w := w) (t := 46) (cs := [.string ⟨#[]⟩, .string ⟨#[]⟩, .string sXml, .string sXML]) (n := 2) (s := 2) (enc := Bd.cells) (l := root) rfl rfl (by omega)
  have k1 := (Kept.refl w).alloc (.cells #[.string ⟨#[]⟩, .string ⟨#[]⟩, .string sXml, .string sXML] 46)
  go_enter Try.func21, Try.ntmps21
  go_wp2_with fail
  go_ret
  exact ⟨_, _, rfl, hS, k1⟩

def RPushedOf (W L : List Bd) (w : World) (e : Ending) (w' : World) : Prop :=
  Kept w w' ∧ ((codeF [] L ≠ 0 ∧ e = .returned (.tuple #[.slice none 0 0, .int .i64 (codeF [] L)])) ∨ (codeF [] L = 0 ∧ ∃ A c, e = .returned (.tuple #[.slice A (W ++ L).length c, .int .i64 0]) ∧ Sl w' 2 A (W ++ L).length c ((W ++ L).flatMap Bd.cells)))
set_option maxHeartbeats 8000000 in
theorem rpush_any (B : Option Addr) (m d : Nat) (W : List Bd) (A : Option Addr) (n c : Nat) (L : List Bd) (w : World) (hW : Sl w 2 B m d (W.flatMap Bd.cells)) (h : Sl w 2 A n c (L.flatMap Bd.cells)) (hn : n ≤ 1000000) (hm : m ≤ 1000000) :
    Calls Try.prog 22 #[.slice B m d, .slice A n c] w fun e w' => RPushedOf W L w e w' := by
  have hL := h.llen (enc := Bd.cells) (fun _ => rfl) (by omega)
  have hLW := hW.llen (enc := Bd.cells) (fun _ => rfl) (by omega)
  have HL := Lib.hid hL
  have HLW := Lib.hid hLW
  have hcap := h.cap
  have hmax := h.max
  clear hL hLW
  go_enter Try.func22, Try.ntmps22
  go_wp2_with fail
  go_loopw [11] (fun i wr => ∃ k : Nat, k ≤ n ∧ i = .int .i64 k ∧ Kept w wr ∧ Hid (codeF [] L = codeF (L.take k) (L.drop k))) (fun i _ => n - (intOf i).toNat)
  case atStart => exact ⟨0, Nat.zero_le _, rfl, Kept.refl _, rfl⟩
  case round =>
    obtain ⟨k, hk, rfl, hkept, hinv⟩ := hrel
    by_cases hlt : k < n
    · obtain ⟨b, o, x, rfl, hx, x0, x1, hb⟩ := elem_bd (h.kept hkept) hlt
      have kb : Kept wr _ := (Kept.refl wr).alloc (.cells #[.string x.p, .string x.u] 46)
      have bx := Blk.new wr #[.string x.p, .string x.u] 46
      have hst : codeF [] L = if wrongF x (L.take k) = 0 then codeF (L.take (k + 1)) (L.drop (k + 1)) else wrongF x (L.take k) := by
        rw [hinv.out, drop_cons hx, take_cons hx]
        rfl
      have hbd := wrongF_bd x (L.take k)
      have hcut := run_cut_h appT_rbds (some ⟨b, o, none⟩) n c k (by omega)
      have p1 : (0 : Int) ≤ k := by omega
      have p2 : (k : Int) ≤ c := by omega
      have ht := fun w' (hk : Kept wr w') => (((h.kept hkept).kept hk).to (m := k) (by omega))
      go_upto_region 4 with fail
      generalize wr.alloc (.cells #[.string x.p, .string x.u] 46) = w3 at kb bx ⊢
      obtain ⟨g3, hg3⟩ : ∃ g3, wr.heap.size = g3 := ⟨_, rfl⟩
      rw [hg3] at bx ⊢
      clear hg3
      have c0 : ∀ p : KeptFrom w3, p.x.cell? ⟨g3, 0, none⟩ = some (.string x.p) := fun p => (bx.kept p.k).cell 0
      have c1 : ∀ p : KeptFrom w3, p.x.cell? ⟨g3, 1, none⟩ = some (.string x.u) := fun p => (bx.kept p.k).cell 1
      have hw : ∀ p : KeptFrom w3, Calls Try.prog 35 #[.agg #[.string x.p, .string x.u], .slice (some ⟨b, o, none⟩) k c] p.x fun e w' => e = .returned (.int .i64 (wrongF x (L.take k))) ∧ Kept p.x w' := fun p => by
        refine rwrong_any x _ _ _ (L.take k) p.x ?_
        have := ht p.x (kb.trans p.k)
        rwa [flat_take (s := 2) (enc := Bd.cells) (fun _ => rfl)] at this
      obtain ⟨z, hz⟩ : ∃ z, wrongF x (L.take k) = z := ⟨_, rfl⟩
      rw [hz] at hw hst hbd
      have HW := Lib.hid hw
      have HST := Lib.hid hst
      clear hw hst ht hinv hz hx
      by_cases h0 : z = 0
      · subst h0
        refine wp_region_kept (by kernel_rfl) (by kernel_rfl) ?_
        repeat (quiet_step ((go_at_call 35; exact Calls.kept_of (HW.out _))))
        refine wpQuiet_nil ?_
        rintro _ ⟨⟨w4, k4⟩, rfl⟩
        go_wp2_with fail
        go_roundw
        case rel => exact ⟨k + 1, hlt, by go_num, (hkept.trans kb).trans k4, by unfold Hid; rw [HST.out, if_pos rfl]⟩
        case measure =>
          simp [intOf]
          omega
      · have d1 : decide (0 < z) = true := by simp; omega
        have hE : codeF [] L = z := by rw [HST.out, if_neg h0]
        have HE := Lib.hid hE
        have H0 := Lib.hid h0
        clear hE h0
        refine wp_region_kept (by kernel_rfl) (by kernel_rfl) ?_
        repeat (quiet_step ((go_at_call 35; exact Calls.kept_of (HW.out _))))
        refine wpQuiet_nil ?_
        rintro _ ⟨⟨w4, k4⟩, rfl⟩
        go_wp2_with fail
        go_ret2
        exact ⟨(hkept.trans kb).trans k4, .inl ⟨by rw [HE.out]; exact H0.out, by rw [HE.out]; rfl⟩⟩
    · obtain rfl : k = n := by omega
      have hE : codeF [] L = 0 := by
        rw [hinv.out, List.drop_eq_nil_of_le (by have := HL.out; omega)]
        rfl
      have HE := Lib.hid hE
      clear hE hinv
      have o0 := own_lit (w := wr) (base := wr.heap.size) (e := 46) (size := 2) (n := 0) (cs := []) (by rfl) (by omega) (Nat.le_refl _)
      have k0 := (Kept.refl wr).alloc (.cells #[] 46)
      have hWr := (hW.kept hkept).kept k0
      go_wp2_with (at_builtin; first
        | (refine wpList_appk wr (by rfl) _ _ (by rfl) appT_rbds (by rfl) o0 k0 (by rfl) hWr ?_ ?_; (exact ⟨bds_one _, by omega⟩); (intro v5 w5 hown5 hk5 hgr5 hob5; have hL5 := (h.kept hkept).kept hk5))
        | (refine wpList_appk wr (by rfl) _ _ (by rfl) appT_rbds (by rfl) hown5 hk5 (by rfl) hL5 ?_ ?_; (exact ⟨bds_one _, by omega⟩); (intro v6 w6 hown6 hk6 hgr6 hob6; obtain ⟨VA6, VC6, rfl, hV6⟩ := Sl.of_own hown6)))
      go_ret2
      have e1 : (W ++ L).length = m + k := by rw [List.length_append, HL.out, HLW.out]
      refine ⟨hkept.trans hk6, .inr ⟨HE.out, VA6, VC6, by rw [e1]; rfl, ?_⟩⟩
      rw [e1, List.flatMap_append]
      rw [Nat.zero_add, List.nil_append] at hV6
      exact hV6
def flatL (ls : List (List Bd)) : List Bd := ls.reverse.flatten
set_option maxHeartbeats 8000000 in
theorem rfind_any (A : Option Addr) (n c : Nat) (W : List Bd) (p : ByteArray) (w : World) (h : Sl w 2 A n c (W.flatMap Bd.cells)) :
    Calls Try.prog 10 #[.slice A n c, .string p] w fun e w' => FoundOf (findB p W.reverse) w e w' := by
  have hL := h.llen (enc := Bd.cells) (fun _ => rfl) (by omega)
  have HL := Lib.hid hL
  have hcap := h.cap
  have hmax := h.max
  clear hL
  go_enter Try.func10, Try.ntmps10
  go_wp2_with fail
  go_loopw [6] (fun i wr => ∃ k : Nat, k ≤ n ∧ i = .int .i64 ((k : Int) - 1) ∧ wr = w ∧ Hid (findB p W.reverse = findB p (W.take k).reverse)) (fun i _ => (intOf i + 1).toNat)
  case atStart => exact ⟨n, Nat.le_refl _, rfl, rfl, by unfold Hid; rw [List.take_of_length_le (by have := HL.out; omega)]⟩
  case round =>
    obtain ⟨k, hk, rfl, rfl, hinv⟩ := hrel
    by_cases h0 : k = 0
    · subst h0
      rw [show (((0 : Nat) : Int) - 1) = -1 from rfl]
      have hE : findB p W.reverse = none := hinv.out
      have HE := Lib.hid hE
      clear hE hinv
      go_wp2_with fail
      go_ret2
      exact ⟨by rw [HE.out]; rfl, Kept.refl _⟩
    · obtain ⟨q, hq⟩ : ∃ q, k = q + 1 := ⟨k - 1, by omega⟩
      obtain ⟨b, o, x, rfl, hx, x0, x1, hb⟩ := elem_bd h (k := q) (by omega)
      have hst := hinv.out
      rw [hq, take_cons hx, List.reverse_append] at hst
      have eq1 : (k : Int) - 1 = (q : Int) := by omega
      have l0 : (0 : Int) ≤ q := by omega
      have l1 : (q : Int) < n := by omega
      have hql : q ≤ n := by omega
      rw [eq1]
      cases hz : eqS x.p p
      · have hst2 : findB p W.reverse = findB p (W.take q).reverse := by rw [hst]; exact findB_miss hz
        have HST := Lib.hid hst2
        have hz' : (x.p.toList == p.toList) = false := hz
        clear hst hst2 hz hinv hx eq1 hq h0
        go_wp2_with fail
        go_roundw
        case rel => exact ⟨q, hql, rfl, trivial, HST.out⟩
        case measure =>
          simp [intOf]
      · have hst2 : findB p W.reverse = some x := by rw [hst]; exact findB_hit hz
        have HST := Lib.hid hst2
        have hz' : (x.p.toList == p.toList) = true := hz
        clear hst hst2 hz hinv hx eq1 hq h0
        go_wp2_with fail
        go_ret2
        exact ⟨by rw [HST.out]; rfl, Kept.refl _⟩
end Go.Proofs.Ytdlgjbijnhfbhaa
