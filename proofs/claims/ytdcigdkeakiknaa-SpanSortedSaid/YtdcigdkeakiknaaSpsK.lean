/- The document's Sorted (layer 6): walked. -/
import Derived.Test.YtdcigdkeakiknaaSpsI
namespace Go.Proofs.Ytdcigdkeakiknaa
open Go.RowKit
attribute [local go_sem ↓] Go.wp_at_zero Go.wp_at_succ

theorem appT_rdgs : AppT Try.prog 47 50 3 := appT_mk (z := .agg #[.int .i64 0, .int .i64 0, .int .i64 0]) (bytes := 24) Try.underlying47 (by kernel_rfl) rfl (by omega) (by omega)
theorem rdgs_one (L : List Dg) : (L.flatMap Dg.cells).all (fun u => u.oneCell') = true := by
  rw [List.all_eq_true]
  intro v hv
  obtain ⟨y, _, hy⟩ := List.mem_flatMap.1 hv
  simp [Dg.cells] at hy
  rcases hy with rfl | rfl | rfl <;> rfl
set_option maxHeartbeats 4000000 in
theorem rahead_any (x y : Dg) (w : World) : Calls Try.prog 26 #[.agg #[.int .i64 x.f, .int .i64 x.t, .int .i64 x.k], .agg #[.int .i64 y.f, .int .i64 y.t, .int .i64 y.k]] w fun e w' => e = .returned (.bool (ltD x y)) ∧ Kept w w' := by
  obtain ⟨f, t, k⟩ := x
  obtain ⟨f', t', k'⟩ := y
  have HV : Hid (ltD ⟨f, t, k⟩ ⟨f', t', k'⟩ = (decide (f < f') || (decide (f = f') && (decide (t < t') || (decide (t = t') && decide (k < k')))))) := rfl
  dsimp only
  by_cases h1 : f = f'
  · subst h1
    by_cases h2 : t = t'
    · subst h2
      have d1 : (f != f) = false := by simp
      have d2 : (t != t) = false := by simp
      cases d3 : decide (k < k')
      all_goals
        have d3' : decide (k < k') = _ := d3
        clear d3
        go_enter Try.func26, Try.ntmps26
        go_wp2_with fail
        go_ret
        exact ⟨ret_bool (by rw [HV.out]; simp [d3']), ((Kept.refl _).alloc _).alloc _⟩
    · have d1 : (f != f) = false := by simp
      have d2 : (t != t') = true := by simpa using h2
      have H2 := Lib.hid h2
      clear h2
      cases d3 : decide (t < t')
      all_goals
        have d3' : decide (t < t') = _ := d3
        clear d3
        go_enter Try.func26, Try.ntmps26
        go_wp2_with fail
        go_ret
        exact ⟨ret_bool (by rw [HV.out]; simp [d3', H2.out]), ((Kept.refl _).alloc _).alloc _⟩
  · have d1 : (f != f') = true := by simpa using h1
    have H1 := Lib.hid h1
    clear h1
    cases d3 : decide (f < f')
    all_goals
      have d3' : decide (f < f') = _ := d3
      clear d3
      go_enter Try.func26, Try.ntmps26
      go_wp2_with fail
      go_ret
      exact ⟨ret_bool (by rw [HV.out]; simp [d3', H1.out]), ((Kept.refl _).alloc _).alloc _⟩
/-- Sorted: the same things in order. -/
def RSortedTo (w : World) (n : Nat) (L : List Dg) (e : Ending) (w' : World) : Prop := Kept w w' ∧ ∃ VA VC W, e = .returned (.slice VA n VC) ∧ Sl w' 3 VA n VC (W.flatMap Dg.cells) ∧ W.Perm L ∧ InOrder ltD W
theorem flat_dg (L : List Dg) (k : Nat) : (L.flatMap Dg.cells).take (k * 3) = (L.take k).flatMap Dg.cells := flat_take (s := 3) (fun _ => rfl) L k
theorem Sl.elemd {w : World} {A : Option Addr} {n c : Nat} {L : List Dg} (h : Sl w 3 A n c (L.flatMap Dg.cells)) {k : Nat} (hk : k < n) : ∃ b o x, A = some ⟨b, o, none⟩ ∧ L[k]? = some x ∧ w.cell? ⟨b, o + k * 3, none⟩ = some (.int .i64 x.f) ∧ w.cell? ⟨b, o + k * 3 + 1, none⟩ = some (.int .i64 x.t) ∧ w.cell? ⟨b, o + k * 3 + 2, none⟩ = some (.int .i64 x.k) ∧ b < w.heap.size := by
  obtain ⟨b, o, x, e, hx, hc, hb⟩ := h.elemb (enc := Dg.cells) (fun _ => rfl) (by omega) hk
  exact ⟨b, o, x, e, hx, by simpa using hc 0 _ rfl, hc 1 _ rfl, hc 2 _ rfl, hb⟩
set_option maxRecDepth 100000 in
set_option maxHeartbeats 8000000 in
theorem rsorted_any (A : Option Addr) (n c : Nat) (L : List Dg) (w : World) (h : Sl w 3 A n c (L.flatMap Dg.cells)) (hn : n ≤ 30) :
    Calls Try.prog 20 #[.slice A n c] w fun e w' => RSortedTo w n L e w' := by
  have hL := h.llen (enc := Dg.cells) (fun _ => rfl) (by omega)
  have HL := Lib.hid hL
  have hcap := h.cap
  have hmax := h.max
  clear hL
  go_enter Try.func20, Try.ntmps20
  go_wp2_with fail
  go_loopw [3, 10] (fun v i wr => ∃ (k : Nat) (VA : Option Addr) (VC : Nat) (O : List Dg), k ≤ n ∧ i = .int .i64 k ∧ v = .slice VA k VC ∧ Sl wr 3 VA k VC (O.flatMap Dg.cells) ∧ Kept w wr ∧ Hid (O.Perm (L.take k) ∧ InOrder ltD O)) (fun _ i _ => n - (intOf i).toNat)
  case atStart => exact ⟨0, none, 0, [], Nat.zero_le _, rfl, rfl, Sl.nil_, Kept.refl _, List.Perm.refl _, List.Pairwise.nil⟩
  case round =>
    obtain ⟨k, VA, VC, OO, hk, rfl, rfl, hO, hkept, hinv⟩ := hrel
    by_cases hlt : k < n
    · obtain ⟨b, o, x, rfl, hx, x0, x1, x2, hb⟩ := (h.kept hkept).elemd hlt
      have HX := Lib.hid hx
      clear hx
      have kb : Kept wr _ := (Kept.refl wr).alloc (.cells #[.int .i64 x.f, .int .i64 x.t, .int .i64 x.k] 50)
      have bx := Blk.new wr #[.int .i64 x.f, .int .i64 x.t, .int .i64 x.k] 50
      go_upto_region 5 with fail
      generalize wr.alloc (.cells #[.int .i64 x.f, .int .i64 x.t, .int .i64 x.k] 50) = w3 at kb bx ⊢
      obtain ⟨g3, hg3⟩ : ∃ g3, wr.heap.size = g3 := ⟨_, rfl⟩
      rw [hg3] at bx ⊢
      clear hg3
      have hO3 := hO.kept kb
      have oc := hO3.cap
      have om := hO3.max
      have hOl := hO3.llen (enc := Dg.cells) (fun _ => rfl) (by omega)
      have HOL := Lib.hid hOl
      clear hOl hO
      go_wp2_with fail
      go_loopw [6] (fun s wq => ∃ j : Nat, j ≤ k ∧ s = .int .i64 j ∧ Kept w3 wq ∧ Hid (∀ y ∈ OO.drop j, ltD x y = true)) (fun s _ => (intOf s).toNat)
      case atStart => exact ⟨k, Nat.le_refl _, rfl, Kept.refl _, by rw [List.drop_eq_nil_of_le (by rw [HOL.out]; exact Nat.le_refl _)]; intro y hy; cases hy⟩
      case round =>
        obtain ⟨j, hj, rfl, hkq, hinj⟩ := hrel
        have hk3 := (hkept.trans kb).trans hkq
        have bq := bx.kept hkq
        have fq := bq.cell
        have hOq := hO3.kept hkq
        have c0 : ∀ p : KeptFrom wr, p.x.cell? ⟨g3, 0, none⟩ = some (.int .i64 x.f) := fun p => (bq.kept p.k).cell 0
        have c1 : ∀ p : KeptFrom wr, p.x.cell? ⟨g3, 1, none⟩ = some (.int .i64 x.t) := fun p => (bq.kept p.k).cell 1
        have c2 : ∀ p : KeptFrom wr, p.x.cell? ⟨g3, 2, none⟩ = some (.int .i64 x.k) := fun p => (bq.kept p.k).cell 2
        by_cases hgo : ∃ p y, j = p + 1 ∧ OO[p]? = some y ∧ ltD x y = true
        · obtain ⟨p, y, hp, hy, hay⟩ := hgo
          obtain ⟨b4, o4, y', rfl, hy', y0, y1, y2, hb4⟩ := hOq.elemd (k := p) (by omega)
          obtain rfl : y = y' := by rw [hy] at hy'; simpa using hy'
          have e0 : ∀ p' : KeptFrom wr, p'.x.cell? ⟨b4, o4 + p * 3, none⟩ = some (.int .i64 y.f) := fun p' => p'.k.cell y0
          have e1 : ∀ p' : KeptFrom wr, p'.x.cell? ⟨b4, o4 + p * 3 + 1, none⟩ = some (.int .i64 y.t) := fun p' => p'.k.cell y1
          have e2 : ∀ p' : KeptFrom wr, p'.x.cell? ⟨b4, o4 + p * 3 + 2, none⟩ = some (.int .i64 y.k) := fun p' => p'.k.cell y2
          have HA := Lib.hid (above2 (x := x) hinv.out.2 hy hay)
          have wj : IntKind.i64.wrap ((j : Int) - 1) = (p : Int) := by rw [IntWalk.i64_in _ (by omega)]; omega
          have l0 : (0 : Int) ≤ (p : Int) := by omega
          have l1 : (p : Int) < k := by omega
          have d3 : 0 < j := by omega
          have hpk : p ≤ k := by omega
          have HP := Lib.hid hp
          have hcall := fun w' => rahead_any x y w'
          rw [hay] at hcall
          have HC := Lib.hid hcall
          clear hy hy' hcall y0 y1 y2 fq hp
          go_wp2_with fail
          refine wp_region_kept (by kernel_rfl) (by kernel_rfl) ?_
          repeat (quiet_step ((go_at_call 26; with_reducible exact Calls.kept_of (HC.out _))))
          refine wpQuiet_nil ?_
          rintro w4 ⟨⟨w4', k4⟩, hw4⟩
          obtain rfl : w4 = w4' := hw4
          try dsimp only
          go_wp2_with fail
          go_roundw
          case rel => exact ⟨p, hpk, rfl, hkq.trans k4, HA.out⟩
          case measure =>
            have := HP.out
            simp [intOf]
            omega
        · have hstop : j = 0 ∨ ∃ y, OO[j - 1]? = some y ∧ ltD x y = false := by
            rcases Nat.eq_zero_or_pos j with h0 | h0
            · exact .inl h0
            · right
              have hl := HOL.out
              refine ⟨OO[j - 1]'(by omega), List.getElem?_eq_getElem _, ?_⟩
              cases ha : ltD x (OO[j - 1]'(by omega))
              · rfl
              · exact absurd ⟨j - 1, _, by omega, List.getElem?_eq_getElem _, ha⟩ hgo
          have hlo : ∀ y ∈ OO.take j, ltD x y = false := by
            rcases hstop with h0 | ⟨y, hy, hay⟩
            · subst h0
              intro y hy
              cases hy
            · by_cases h0 : j = 0
              · subst h0
                intro y hy
                cases hy
              · have := below2 (x := x) hinv.out.2 hy hay
                rwa [show j - 1 + 1 = j by omega] at this
          have HINS := Lib.hid (show InOrder ltD (OO.take j ++ x :: OO.drop j) ∧ (OO.take j ++ x :: OO.drop j).Perm (L.take (k + 1)) from ⟨put_one ltD_strict (by rw [List.take_append_drop]; exact hinv.out.2) hlo (fun y hy => ltD_strict.asymm (hinj.out y hy)), by
            rw [List.take_add_one, HX.out]
            have e1 : (OO.take j ++ x :: OO.drop j).Perm (x :: (OO.take j ++ OO.drop j)) := List.perm_middle
            rw [List.take_append_drop] at e1
            exact (e1.trans (List.Perm.cons x hinv.out.1)).trans (List.perm_append_singleton x (L.take k)).symm⟩)
          have HSTOP := Lib.hid hstop
          clear hgo hstop hlo
          go_upto_region 6 with fail
          go_cut [26] (fun s wx => s = .bool false ∧ Kept wr wx)
          case first =>
            by_cases h0 : j = 0
            · have d3 : decide (0 < j) = false := by simp; omega
              clear h0
              go_region
              go_wp2_with fail
              go_meet
              exact ⟨rfl, (Kept.refl _).drew⟩
            · obtain ⟨y, hy, hay⟩ := HSTOP.out.resolve_left h0
              obtain ⟨p, hp⟩ : ∃ p, j = p + 1 := ⟨j - 1, by omega⟩
              rw [show j - 1 = p by omega] at hy
              obtain ⟨b4, o4, y', rfl, hy', y0, y1, y2, hb4⟩ := hOq.elemd (k := p) (by omega)
              obtain rfl : y = y' := by rw [hy] at hy'; simpa using hy'
              have e0 : ∀ p' : KeptFrom wr, p'.x.cell? ⟨b4, o4 + p * 3, none⟩ = some (.int .i64 y.f) := fun p' => p'.k.cell y0
              have e1 : ∀ p' : KeptFrom wr, p'.x.cell? ⟨b4, o4 + p * 3 + 1, none⟩ = some (.int .i64 y.t) := fun p' => p'.k.cell y1
              have e2 : ∀ p' : KeptFrom wr, p'.x.cell? ⟨b4, o4 + p * 3 + 2, none⟩ = some (.int .i64 y.k) := fun p' => p'.k.cell y2
              have wj : IntKind.i64.wrap ((j : Int) - 1) = (p : Int) := by rw [IntWalk.i64_in _ (by omega)]; omega
              have l0 : (0 : Int) ≤ (p : Int) := by omega
              have l1 : (p : Int) < k := by omega
              have d3 : 0 < j := by omega
              have hcall := fun w' => rahead_any x y w'
              rw [hay] at hcall
              have HC := Lib.hid hcall
              clear hy hy' hcall y0 y1 y2 fq hp h0 hay
              refine wp_region_kept (by kernel_rfl) (by kernel_rfl) ?_
              repeat (quiet_step ((go_at_call 26; with_reducible exact Calls.kept_of (HC.out _))))
              refine wpQuiet_nil ?_
              rintro _ ⟨⟨w4, k4⟩, rfl⟩
              go_wp2_with fail
              go_meet
              exact ⟨rfl, k4⟩
          case rest =>
            obtain ⟨rfl, hkc⟩ := hcut
            have hkc3 := hk3.trans hkc
            have bc := bq.kept hkc
            have hOc := hOq.kept hkc
            have t1 := hOc.to (m := j) hj
            have t2 := Sl.cutf (s := 3) (enc := Dg.cells) (fun _ => rfl) hOc (i := j) (m := k) hj (Nat.le_refl _)
            rw [flat_dg] at t1
            rw [List.take_of_length_le (by rw [List.length_drop]; have := HOL.out; omega)] at t2
            have r1 := run_cut_h appT_rdgs VA k VC j (by omega)
            have r2 := run_cut_l appT_rdgs VA k VC j hj
            obtain ⟨C2, hC2⟩ : ∃ C, cutA VA VC j 3 = C := ⟨_, rfl⟩
            rw [hC2] at t2 r2
            have p1 : (0 : Int) ≤ j := by omega
            have p2 : (j : Int) ≤ k := by omega
            have p3 : (j : Int) ≤ VC := by omega
            have ka := (Kept.refl wc).alloc (.cells #[] 50)
            have oa := own_lit (w := wc) (base := wc.heap.size) (e := 50) (size := 3) (n := 0) (cs := []) (by rfl) (by omega) (Nat.le_refl _)
            clear hC2 hOc hOq c0 c1 c2 bq fq HSTOP
            have CO := Lib.hid rdgs_one
            go_upto_region 9 with (at_builtin; refine wpList_appk wc (by rfl) _ _ (by rfl) appT_rdgs (by rfl) oa ka (by rfl) (t1.kept ((Kept.refl _).alloc _)) ?_ ?_; (exact ⟨CO.out _, by omega⟩); (intro v5 w5 hown5 hk5 hgr5 hob5))
            rw [Nat.zero_add, List.nil_append] at hown5
            have f5 := (bc.kept hk5).cell
            go_upto_region 10 with (at_builtin; refine wpList_push wc (by rfl) _ _ (by rfl) appT_rdgs (by rfl) hown5 hk5 (by rfl) (by exact ⟨by rfl, by rfl, by rfl, by omega⟩) ?_; intro v6 w6 hown6 hk6 hgr6 hob6)
            clear hob5 hgr5 hgr6 hob6 f5
            go_wp2_with (at_builtin; refine wpList_appk wc (by rfl) _ _ (by rfl) appT_rdgs (by rfl) hown6 hk6 (by rfl) (t2.kept hk6) ?_ ?_; (exact ⟨CO.out _, by omega⟩); (intro v7 w7 hown7 hk7 hgr7 hob7; obtain ⟨VA7, VC7, rfl, hV7⟩ := Sl.of_own hown7))
            clear hgr7 hob7 hown7 hown6 hown5
            go_roundw
            case rel =>
              refine ⟨k + 1, VA7, VC7, OO.take j ++ x :: OO.drop j, hlt, by go_num, by rw [show j + 1 + (k - j) = k + 1 by omega], ?_, hkc3.trans hk7, HINS.out.2, HINS.out.1⟩
              rw [List.flatMap_append, List.flatMap_cons]
              rw [show j + 1 + (k - j) = k + 1 by omega, List.append_assoc] at hV7
              exact hV7
            case measure =>
              simp [intOf]
              omega
    · obtain rfl : k = n := by omega
      have hall := hinv.out
      rw [List.take_of_length_le (by have := HL.out; omega)] at hall
      have HALL := Lib.hid hall
      clear hall hinv
      go_wp2_with fail
      go_ret
      exact ⟨hkept, VA, VC, OO, rfl, hO, HALL.out.1, HALL.out.2⟩
end Go.Proofs.Ytdcigdkeakiknaa
