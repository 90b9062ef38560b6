/- Scopes in memory; what is wrong with a binding: walked. -/
import Derived.Test.YtdlgjbijnhfbhaaScoP
import Derived.Test.YtdlgjbijnhfbhaaBlk
import Derived.Test.YtdlgjbijnhfbhaaQuiet
import Derived.Test.YtdlgjbijnhfbhaaMake
import Derived.Lib.SliceRun
import Derived.BigRegion
import Derived.IntWalk
namespace Go.Proofs.Ytdlgjbijnhfbhaa
open Go.RowKit
attribute [local go_sem ↓] Go.wp_at_zero Go.wp_at_succ

theorem appT_bds : AppT Try.prog 42 45 2 := appT_mk (z := .agg #[.string ⟨#[]⟩, .string ⟨#[]⟩]) (bytes := 32) Try.underlying42 (by kernel_rfl) rfl (by omega) (by omega)
theorem appT_rbds : AppT Try.prog 24 46 2 := appT_mk (z := .agg #[.string ⟨#[]⟩, .string ⟨#[]⟩]) (bytes := 32) Try.underlying24 (by kernel_rfl) rfl (by omega) (by omega)
theorem bds_one (l : List Bd) : (l.flatMap Bd.cells).all (fun u => u.oneCell') = true := by
  rw [List.all_eq_true]
  intro v hv
  obtain ⟨y, _, hy⟩ := List.mem_flatMap.1 hv
  simp [Bd.cells] at hy
  rcases hy with rfl | rfl <;> rfl
theorem elem_bd {w : World} {n c k : Nat} {A : Option Addr} {L : List Bd} (h : Sl w 2 A n c (L.flatMap Bd.cells)) (hk : k < n) :
    ∃ b o x, A = some ⟨b, o, none⟩ ∧ L[k]? = some x ∧ w.cell? ⟨b, o + k * 2, none⟩ = some (.string x.p) ∧ w.cell? ⟨b, o + k * 2 + 1, none⟩ = some (.string x.u) ∧ b < w.heap.size := by
  obtain ⟨b, o, x, hA, hx, hc, hb⟩ := h.elemb (s := 2) (fun _ => rfl) (by omega) hk
  exact ⟨b, o, x, hA, hx, hc 0 _ rfl, hc 1 _ rfl, hb⟩

/-- A chain of scopes, the innermost first. -/
def ScopeAt (w : World) : Value → List (List Bd) → Prop
  | v, [] => v = .pointer none
  | v, l :: ls => ∃ g A n c u, v = .pointer (some ⟨g, 0, none⟩) ∧ Blk w g #[u, .slice A n c] 57 ∧ Sl w 2 A n c (l.flatMap Bd.cells) ∧ ScopeAt w u ls
theorem ScopeAt.kept {w w' : World} (k : Kept w w') : ∀ {ls : List (List Bd)} {v : Value}, ScopeAt w v ls → ScopeAt w' v ls
  | [], _, h => h
  | _ :: _, _, ⟨g, A, n, c, u, hv, hb, hs, hr⟩ => ⟨g, A, n, c, u, hv, hb.kept k, hs.kept k, ScopeAt.kept k hr⟩

theorem Blk.at_ {w : World} {g : Nat} (hg : g = w.heap.size) (cs : Array Value) (t : TypeId) : Blk (w.alloc (.cells cs t)) g cs t := hg ▸ Blk.new w cs t
theorem new_any (w : World) : Calls Try.prog 20 #[] w fun e w' => ∃ g, e = .returned (.pointer (some ⟨g, 0, none⟩)) ∧ ScopeAt w' (.pointer (some ⟨g, 0, none⟩)) [root] ∧ Kept w w' := by
  go_enter Try.func20, Try.ntmps20
  go_wp2_with fail
  have hS := Sl.litf (w := w) (t := 45) (cs := [.string ⟨#[]⟩, .string ⟨#[]⟩, .string sXml, .string sXML]) (n := 2) (s := 2) (enc := Bd.cells) (l := root) rfl rfl (by omega)
  have k1 := (Kept.refl w).alloc (.cells #[.string ⟨#[]⟩, .string ⟨#[]⟩, .string sXml, .string sXML] 45)
  go_ret
  refine ⟨_, rfl, ⟨_, some ⟨w.heap.size, 0, none⟩, 2, 2, .pointer none, rfl, Blk.at_ (by simp) _ _, hS.kept ((Kept.refl _).alloc _), rfl⟩, k1.alloc _⟩

theorem hit_any (o b : Bd) (g : Nat) (w : World) (hg : w.cell? ⟨g, 0, none⟩ = some (.string b.p)) (hgl : g < w.heap.size) :
    Calls Try.prog 46 #[.agg #[.string o.p, .string o.u], .pointer (some ⟨g, 0, none⟩)] w fun e w' => e = .returned (.bool (eqS o.p b.p)) ∧ Kept w w' := by
  have HV : Hid (eqS o.p b.p = (o.p.toList == b.p.toList)) := rfl
  generalize hz : eqS o.p b.p = z at HV ⊢
  have hz' : (o.p.toList == b.p.toList) = z := HV.out.symm
  clear hz HV
  go_enter Try.func46, Try.ntmps46
  go_wp2_with fail
  go_ret
  exact ⟨rfl, (Kept.refl _).alloc _⟩
set_option maxHeartbeats 2000000 in
theorem taken_any (A : Option Addr) (n c : Nat) (L : List Bd) (b : Bd) (g : Nat) (w : World) (h : Sl w 2 A n c (L.flatMap Bd.cells)) (hg : w.cell? ⟨g, 0, none⟩ = some (.string b.p)) :
    Calls Try.prog 28 #[.slice A n c, .func (.func 46) #[] #[.pointer (some ⟨g, 0, none⟩)]] w fun e w' => e = .returned (.bool (L.any (fun o => eqS o.p b.p))) ∧ Kept w w' := by
  have hL := h.llen (enc := Bd.cells) (fun _ => rfl) (by omega)
  have HL := Lib.hid hL
  clear hL
  have hc : Calls Try.prog 42 #[.slice A n c, .func (.func 46) #[] #[.pointer (some ⟨g, 0, none⟩)]] w fun e w' => ∃ z : Int, e = .returned (.int .i64 z) ∧ decide (0 ≤ z) = L.any (fun o => eqS o.p b.p) ∧ Kept w w' := by
    have hcap := h.cap
    have hmax := h.max
    have HG := Lib.hid hg
    clear hg
    go_enter Try.func42, Try.ntmps42
    go_wp2_with fail
    go_loopw [8] (fun i wr => ∃ k : Nat, k ≤ n ∧ i = .int .i64 k ∧ Kept w wr ∧ Hid ((L.take k).any (fun o => eqS o.p b.p) = false)) (fun i _ => n - (intOf i).toNat)
    case atStart => exact ⟨0, Nat.zero_le _, rfl, Kept.refl _, rfl⟩
    case round =>
      obtain ⟨k, hk, rfl, hkept, hinv⟩ := hrel
      by_cases hlt : k < n
      · obtain ⟨b', o, x, rfl, hx, c0, c1, hb⟩ := elem_bd (h.kept hkept) hlt
        have HX := Lib.hid hx
        clear hx
        have hg2 := hkept.cell HG.out
        cases hbad : eqS x.p b.p
        · go_wp2_with fail
          refine (hit_any x b g _ hg2 (World.block_lt_of_cell? _ _ hg2)).mono ?_
          rintro e w1 ⟨rfl, hk1⟩
          rw [hbad]
          go_wp2_with fail
          go_roundw
          case rel =>
            refine ⟨k + 1, hlt, by go_num, hkept.trans hk1, ?_⟩
            unfold Hid
            rw [List.take_add_one, HX.out, List.any_append, hinv.out]
            simp [hbad]
          case measure =>
            simp [intOf]
            omega
        · go_wp2_with fail
          refine (hit_any x b g _ hg2 (World.block_lt_of_cell? _ _ hg2)).mono ?_
          rintro e w1 ⟨rfl, hk1⟩
          rw [hbad]
          go_wp2_with fail
          go_ret
          refine ⟨_, rfl, ?_, hkept.trans hk1⟩
          have : L.any (fun o => eqS o.p b.p) = true := by
            rw [List.any_eq_true]
            exact ⟨x, List.mem_of_getElem? HX.out, hbad⟩
          rw [this]
          simp
      · go_wp2_with fail
        go_ret
        refine ⟨_, rfl, ?_, hkept⟩
        have h1 := hinv.out
        rw [List.take_of_length_le (by have := HL.out; omega)] at h1
        rw [h1]
        rfl
  have HC := Lib.hid hc
  clear hc hg
  go_enter Try.func28, Try.ntmps28
  go_wp2_with fail
  refine HC.out.mono ?_
  rintro e w' ⟨z, rfl, hz, hk⟩
  have HZ := Lib.hid hz
  clear hz
  go_wp2_with fail
  go_ret
  exact ⟨ret_bool HZ.out, hk⟩

theorem isEmpty_eq (l : List UInt8) : l.isEmpty = (l == []) := by cases l <;> rfl
theorem ret_code {a b : Int} (h : a = b) : Ending.returned (.int .i64 a) = .returned (.int .i64 b) := by rw [h]
set_option maxHeartbeats 4000000 in
theorem wrong_any (b : Bd) (A : Option Addr) (n c : Nat) (L : List Bd) (w : World) (h : Sl w 2 A n c (L.flatMap Bd.cells)) :
    Calls Try.prog 33 #[.agg #[.string b.p, .string b.u], .slice A n c] w fun e w' => e = .returned (.int .i64 (wrongF b L)) ∧ Kept w w' := by
  have HW : Hid (wrongF b L = if eqL b.p lXmlns || eqL b.u lXMLNS then 1 else if eqL b.p lXml != eqL b.u lXML then 2 else if !eqL b.p [] && eqL b.u [] then 3 else if L.any (fun o => eqS o.p b.p) then 4 else 0) := rfl
  have k1 := (Kept.refl w).alloc (.cells #[.string b.p, .string b.u] 45)
  have bx := Blk.new w #[.string b.p, .string b.u] 45
  go_enter Try.func33, Try.ntmps33
  go_upto_region 1 with fail
  generalize w.alloc (.cells #[.string b.p, .string b.u] 45) = w1 at k1 bx ⊢
  obtain ⟨g, hg⟩ : ∃ g, w.heap.size = g := ⟨_, rfl⟩
  rw [hg] at bx ⊢
  clear hg
  have bf := bx.cell
  have h1 := h.kept k1
  obtain ⟨c1, hc1⟩ : ∃ c1, (eqL b.p lXmlns || eqL b.u lXMLNS) = c1 := ⟨_, rfl⟩
  obtain ⟨c2, hc2⟩ : ∃ c2, (eqL b.p lXml != eqL b.u lXML) = c2 := ⟨_, rfl⟩
  obtain ⟨c3, hc3⟩ : ∃ c3, (!eqL b.p [] && eqL b.u []) = c3 := ⟨_, rfl⟩
  rw [hc1, hc2, hc3] at HW
  have H1 := Lib.hid hc1
  have H2 := Lib.hid hc2
  have H3 := Lib.hid hc3
  clear hc1 hc2 hc3
  go_cut [5] (fun s wx => s = .bool c1 ∧ wx = w1)
  case first =>
    cases t1 : eqL b.p lXmlns
    all_goals
      have hz := H1.out
      rw [t1] at hz
      have t1' : (b.p.toList == [120, 109, 108, 110, 115]) = _ := t1
      clear t1 bx h1
    · have hz' : (b.u.toList == [104, 116, 116, 112, 58, 47, 47, 119, 119, 119, 46, 119, 51, 46, 111, 114, 103, 47, 50, 48, 48, 48, 47, 120, 109, 108, 110, 115, 47]) = c1 := hz
      clear hz
      go_wp2_with fail
      go_meet
      exact ⟨rfl, rfl⟩
    · have HC := Lib.hid (show true = c1 from hz)
      clear hz
      go_wp2_with fail
      go_meet
      exact ⟨congrArg _ HC.out, rfl⟩
  case rest =>
    obtain ⟨rfl, rfl⟩ := hcut
    cases c1
    rotate_left
    · go_wp2_with fail
      go_ret
      exact ⟨ret_code (by rw [HW.out]; rfl), k1⟩
    go_upto_region 3 with fail
    go_cut [14] (fun s wx => s = .bool c2 ∧ wx = wc)
    case first =>
      cases t1 : eqL b.p lXml
      all_goals
        have hz := H2.out
        rw [t1] at hz
        have t1' : (b.p.toList == [120, 109, 108]) = _ := t1
        cases t2 : eqL b.u lXML
        all_goals
          rw [t2] at hz
          have HC := Lib.hid hz
          have t2' : (b.u.toList == [104, 116, 116, 112, 58, 47, 47, 119, 119, 119, 46, 119, 51, 46, 111, 114, 103, 47, 88, 77, 76, 47, 49, 57, 57, 56, 47, 110, 97, 109, 101, 115, 112, 97, 99, 101]) = _ := t2
          clear t1 t2 hz bx h1
          go_wp2_with fail
          go_meet
          exact ⟨congrArg _ HC.out, rfl⟩
    case rest =>
      obtain ⟨rfl, rfl⟩ := hcut
      cases c2
      rotate_left
      · go_wp2_with fail
        go_ret
        exact ⟨ret_code (by rw [HW.out]; rfl), k1⟩
      go_upto_region 5 with fail
      go_cut [22] (fun s wx => s = .bool c3 ∧ wx = wc)
      case first =>
        cases t1 : eqL b.p []
        all_goals
          have hz := H3.out
          rw [t1] at hz
          have t1' : (b.p.toList == []) = _ := t1
          have t1'' : b.p.toList.isEmpty = _ := (isEmpty_eq _).trans t1'
          cases t2 : eqL b.u []
          all_goals
            rw [t2] at hz
            have HC := Lib.hid hz
            have t2' : (b.u.toList == []) = _ := t2
            have t2'' : b.u.toList.isEmpty = _ := (isEmpty_eq _).trans t2'
            clear t1 t2 hz bx h1
            go_wp2_with fail
            go_meet
            exact ⟨congrArg _ HC.out, rfl⟩
      case rest =>
        obtain ⟨rfl, rfl⟩ := hcut
        cases c3
        rotate_left
        · go_wp2_with fail
          go_ret
          exact ⟨ret_code (by rw [HW.out]; rfl), k1⟩
        have ht := taken_any A n c L b g wc h1 (bf 0)
        obtain ⟨c4, hc4⟩ : ∃ c4, L.any (fun o => eqS o.p b.p) = c4 := ⟨_, rfl⟩
        rw [hc4] at ht HW
        have HT := Lib.hid ht
        clear hc4 ht
        go_wp2_with fail
        refine HT.out.mono ?_
        rintro e w2 ⟨rfl, k2⟩
        cases c4
        · go_wp2_with fail
          go_ret
          exact ⟨ret_code (by rw [HW.out]; rfl), k1.trans k2⟩
        · go_wp2_with fail
          go_ret
          exact ⟨ret_code (by rw [HW.out]; rfl), k1.trans k2⟩
end Go.Proofs.Ytdlgjbijnhfbhaa
