/- The document's Sorted (layer 12): walked. -/
import Derived.Test.YtdfipecgalnioaaSplA
import Derived.BigQuiet
import Derived.BigRegion
namespace Go.Proofs.Ytdfipecgalnioaa
open Go.RowKit
attribute [local go_sem ↓] Go.wp_at_zero Go.wp_at_succ

def aheadC (x y : Ch) : Bool := aheadK x.k y.k
theorem ahead_any (x y : Ch) (w : World) : Calls Try.prog 24 #[.agg #[.int .i64 x.f, .int .i64 x.t, .slice x.A x.n x.c], .agg #[.int .i64 y.f, .int .i64 y.t, .slice y.A y.n y.c]] w fun e w' => e = .returned (.bool (aheadC x y)) ∧ Kept w w' := by
  obtain ⟨f, t, A, n, c, b⟩ := x
  obtain ⟨f', t', A', n', c', b'⟩ := y
  have HV : Hid (aheadC ⟨f, t, A, n, c, b⟩ ⟨f', t', A', n', c', b'⟩ = (decide (f < f') || (f == f' && decide (t < t')))) := rfl
  dsimp only
  rcases (show f < f' ∨ f = f' ∨ f' < f by omega) with h | h | h
  · have d1 : decide (f < f') = true := by simpa using h
    go_enter Try.func24, Try.ntmps24
    go_wp2_with fail
    go_ret
    exact ⟨ret_bool (by rw [HV.out, d1]; rfl), ((Kept.refl _).alloc _).alloc _⟩
  · subst h
    have d1 : decide (f < f) = false := by simp
    cases d2 : decide (t < t')
    all_goals
      have d3 : decide (t < t') = _ := d2
      clear d2
      go_enter Try.func24, Try.ntmps24
      go_wp2_with fail
      go_ret
      exact ⟨ret_bool (by rw [HV.out]; simp [d3]), ((Kept.refl _).alloc _).alloc _⟩
  · have d1 : decide (f < f') = false := by simp; omega
    have d2 : (f == f') = false := by simp; omega
    go_enter Try.func24, Try.ntmps24
    go_wp2_with fail
    go_ret
    exact ⟨ret_bool (by rw [HV.out, d1, d2]; rfl), ((Kept.refl _).alloc _).alloc _⟩

theorem insR_rev {α : Type} (lt : α → α → Bool) (x : α) : ∀ (r : List α) (p : Nat), p ≤ r.length → (∀ i y, i < p → r[i]? = some y → lt x y = true) → (∀ y, r[p]? = some y → lt x y = false) → insR lt x r = r.take p ++ x :: r.drop p
  | [], p, _, _, _ => by simp [insR]
  | y :: r, 0, _, _, h2 => by
    unfold insR
    rw [h2 y rfl]
    rfl
  | y :: r, p + 1, hp, h1, h2 => by
    unfold insR
    rw [h1 0 y (by omega) rfl, if_pos rfl, insR_rev lt x r p (by simpa using hp) (fun i z hi hz => h1 (i + 1) z (by omega) (by simpa using hz)) (fun z hz => h2 z (by simpa using hz))]
    simp
/-- Put ahead of all behind place j. -/
theorem insR_at {α : Type} (lt : α → α → Bool) (x : α) (o : List α) (j : Nat) (hj : j ≤ o.length) (h1 : ∀ i y, j ≤ i → o[i]? = some y → lt x y = true) (h2 : j = 0 ∨ ∃ y, o[j - 1]? = some y ∧ lt x y = false) :
    (insR lt x o.reverse).reverse = o.take j ++ x :: o.drop j := by
  rw [insR_rev lt x o.reverse (o.length - j) (by simp) ?_ ?_]
  · rw [List.take_reverse, List.drop_reverse]
    simp [show o.length - (o.length - j) = j by omega]
  · intro i y hi hy
    rw [List.getElem?_reverse (by omega)] at hy
    exact h1 _ y (by omega) hy
  · intro y hy
    have hlt : o.length - j < o.length := by
      have := (List.getElem?_eq_some_iff.1 hy).1
      simpa using this
    rw [List.getElem?_reverse (by omega), show o.length - 1 - (o.length - j) = j - 1 by omega] at hy
    rcases h2 with h2 | ⟨z, hz, h2⟩
    · omega
    · rw [hz] at hy
      injection hy with hy
      rw [← hy]
      exact h2

def srtC (l : List Ch) : List Ch := sortF aheadC l
theorem srtC_map (l : List Ch) : (srtC l).map Ch.k = srt (l.map Ch.k) := sortF_map _ (fun _ _ => rfl) l
theorem srtC_snoc (l : List Ch) (x : Ch) : srtC (l ++ [x]) = (insR aheadC x (srtC l).reverse).reverse := by
  unfold srtC
  rw [sortF_snoc]
  unfold sortF
  rw [List.reverse_reverse]

theorem flat_ch (L : List Ch) (k : Nat) : (L.flatMap Ch.cells).take (k * 3) = (L.take k).flatMap Ch.cells := flat_take (s := 3) (fun _ => rfl) L k
set_option maxRecDepth 100000 in
set_option maxHeartbeats 8000000 in
theorem rsorted_any (A : Option Addr) (n c : Nat) (L : List Ch) (w : World) (h : Sl w 3 A n c (L.flatMap Ch.cells)) (hok : ∀ x ∈ L, x.ok w) (hn : n ≤ 19) :
    Calls Try.prog 10 #[.slice A n c] w fun e w' => SortedOf (L.map Ch.k) w e w' := by
  have hL := h.llen (enc := Ch.cells) (fun _ => rfl) (by omega)
  have HL := Lib.hid hL
  have hcap := h.cap
  have hmax := h.max
  have HOK := Lib.hid hok
  clear hok hL
  go_enter Try.func10, Try.ntmps10
  go_wp2_with fail
  go_loopw [4, 13] (fun v i wr => ∃ (k : Nat) (VA : Option Addr) (VC : Nat), k ≤ n ∧ i = .int .i64 k ∧ v = .slice VA k VC ∧ Sl wr 3 VA k VC ((srtC (L.take k)).flatMap Ch.cells) ∧ Kept w wr ∧ Hid (((L.take k).map Ch.k).all okK = true)) (fun _ i _ => n - (intOf i).toNat)
  case atStart => exact ⟨0, none, 0, Nat.zero_le _, rfl, rfl, Sl.nil_, Kept.refl _, rfl⟩
  case round =>
    obtain ⟨k, VA, VC, hk, rfl, rfl, hO, hkept, hinv⟩ := hrel
    by_cases hlt : k < n
    · obtain ⟨b, o, x, rfl, hx, x0, x1, x2, hb⟩ := elem_ch (h.kept hkept) hlt
      have HX := Lib.hid hx
      clear hx
      have kb : Kept wr _ := (Kept.refl wr).alloc (.cells #[.int .i64 x.f, .int .i64 x.t, .slice x.A x.n x.c] 49)
      have bx := Blk.new wr #[.int .i64 x.f, .int .i64 x.t, .slice x.A x.n x.c] 49
      go_upto_region 5 with fail
      generalize wr.alloc (.cells #[.int .i64 x.f, .int .i64 x.t, .slice x.A x.n x.c] 49) = w3 at kb bx ⊢
      obtain ⟨g3, hg3⟩ : ∃ g3, wr.heap.size = g3 := ⟨_, rfl⟩
      rw [hg3] at bx ⊢
      clear hg3
      have bf := bx.cell
      cases hbad : okK x.k
      · have hE : errK (L.map Ch.k) = 3 := by
          unfold errK
          have : (L.map Ch.k).all okK = false := by
            rw [← Bool.not_eq_true, List.all_eq_true]
            intro h
            have := h x.k (List.mem_map.2 ⟨x, List.mem_of_getElem? HX.out, rfl⟩)
            rw [hbad] at this
            cases this
          rw [this]
          rfl
        have HE := Lib.hid hE
        have hb2 : decide (x.f < 0) = true ∨ (decide (x.f < 0) = false ∧ decide (x.t < x.f) = true) := by
          have : (!(decide (x.f < 0) || decide (x.t < x.f))) = false := hbad
          cases h1 : decide (x.f < 0)
          · rw [h1] at this
            simp at this
            exact .inr ⟨rfl, by simpa using this⟩
          · exact .inl rfl
        clear hE hbad
        rcases hb2 with d1 | ⟨d1, d2⟩
        all_goals
          go_wp2_with fail
          go_ret2
          exact ⟨hkept.trans kb, .inl ⟨by rw [HE.out]; decide, by rw [HE.out]; rfl⟩⟩
      · have hb2 : decide (x.f < 0) = false ∧ decide (x.t < x.f) = false := by
          have : (!(decide (x.f < 0) || decide (x.t < x.f))) = true := hbad
          cases h1 : decide (x.f < 0) <;> cases h2 : decide (x.t < x.f) <;> simp_all
        obtain ⟨d1, d2⟩ := hb2
        have HB := Lib.hid hbad
        clear hbad
        have hO3 := hO.kept kb
        have oc := hO3.cap
        have om := hO3.max
        have hOl : (srtC (L.take k)).length = k := by
          have := HL.out
          unfold srtC
          rw [sortF_len, List.length_take]
          omega
        obtain ⟨OO, hOO⟩ : ∃ z, srtC (L.take k) = z := ⟨_, rfl⟩
        rw [hOO] at hO3 hOl
        have HOO := Lib.hid hOO
        have HOL := Lib.hid hOl
        clear hOO hOl hO
        go_wp2_with fail
        go_loopw [7] (fun s wq => ∃ j : Nat, j ≤ k ∧ s = .int .i64 j ∧ Kept w3 wq ∧ Hid (∀ i y, j ≤ i → OO[i]? = some y → aheadC x y = true)) (fun s _ => (intOf s).toNat)
        case atStart => exact ⟨k, Nat.le_refl _, rfl, Kept.refl _, fun i y hi hy => by have := (List.getElem?_eq_some_iff.1 hy).1; have := HOL.out; omega⟩
        case round =>
          obtain ⟨j, hj, rfl, hkq, hinj⟩ := hrel
          have hk3 := (hkept.trans kb).trans hkq
          have bq := bx.kept hkq
          have fq := bq.cell
          have hOq := hO3.kept hkq
          have c0 : ∀ p : KeptFrom wr, p.x.cell? ⟨g3, 0, none⟩ = some (.int .i64 x.f) := fun p => (bq.kept p.k).cell 0
          have c1 : ∀ p : KeptFrom wr, p.x.cell? ⟨g3, 1, none⟩ = some (.int .i64 x.t) := fun p => (bq.kept p.k).cell 1
          have c2 : ∀ p : KeptFrom wr, p.x.cell? ⟨g3, 2, none⟩ = some (.slice x.A x.n x.c) := fun p => (bq.kept p.k).cell 2
          by_cases hgo : ∃ p y, j = p + 1 ∧ OO[p]? = some y ∧ aheadC x y = true
          · obtain ⟨p, y, hp, hy, hay⟩ := hgo
            obtain ⟨b4, o4, y', rfl, hy', y0, y1, y2, hb4⟩ := elem_ch hOq (k := p) (by omega)
            obtain rfl : y = y' := by rw [hy] at hy'; simpa using hy'
            have e0 : ∀ p' : KeptFrom wr, p'.x.cell? ⟨b4, o4 + p * 3, none⟩ = some (.int .i64 y.f) := fun p' => p'.k.cell y0
            have e1 : ∀ p' : KeptFrom wr, p'.x.cell? ⟨b4, o4 + p * 3 + 1, none⟩ = some (.int .i64 y.t) := fun p' => p'.k.cell y1
            have e2 : ∀ p' : KeptFrom wr, p'.x.cell? ⟨b4, o4 + p * 3 + 2, none⟩ = some (.slice y.A y.n y.c) := fun p' => p'.k.cell y2
            have HY := Lib.hid hy
            have wj : IntKind.i64.wrap ((j : Int) - 1) = (p : Int) := by rw [IntWalk.i64_in _ (by omega)]; omega
            have l0 : (0 : Int) ≤ (p : Int) := by omega
            have l1 : (p : Int) < k := by omega
            have d3 : 0 < j := by omega
            have hpk : p ≤ k := by omega
            have HP := Lib.hid hp
            have hcall := fun w' => ahead_any x y w'
            rw [hay] at hcall
            have HC := Lib.hid hcall
            clear hy hy' hcall y0 y1 y2 fq hp
            go_wp2_with fail
            refine wp_region_kept (by kernel_rfl) (by kernel_rfl) ?_
            repeat (quiet_step ((go_at_call 24; exact Calls.kept_of (HC.out _))))
            refine wpQuiet_nil ?_
            rintro _ ⟨⟨w4, k4⟩, rfl⟩
            try dsimp only
            go_wp2_with fail
            go_roundw
            case rel =>
              refine ⟨p, hpk, rfl, hkq.trans k4, ?_⟩
              unfold Hid
              intro i z hi hz
              have := HP.out
              rcases Nat.eq_or_lt_of_le hi with h | h
              · subst h
                rw [HY.out] at hz
                injection hz with hz
                rw [← hz]
                exact hay
              · exact hinj.out i z (by omega) hz
            case measure =>
              have := HP.out
              simp [intOf]
              omega
          · have hstop : j = 0 ∨ ∃ y, OO[j - 1]? = some y ∧ aheadC x y = false := by
              rcases Nat.eq_zero_or_pos j with h0 | h0
              · exact .inl h0
              · right
                have hl := HOL.out
                refine ⟨OO[j - 1]'(by omega), List.getElem?_eq_getElem _, ?_⟩
                cases ha : aheadC x (OO[j - 1]'(by omega))
                · rfl
                · exact absurd ⟨j - 1, _, by omega, List.getElem?_eq_getElem _, ha⟩ hgo
            have hins := insR_at aheadC x OO j (by have := HOL.out; omega) hinj.out hstop
            have HINS := Lib.hid hins
            have HSTOP := Lib.hid hstop
            clear hgo hins hstop
            go_upto_region 8 with fail
            go_cut [39] (fun s wx => s = .bool false ∧ Kept wr wx)
            case first =>
              by_cases h0 : j = 0
              · have d3 : decide (0 < j) = false := by simp; omega
                clear h0
                go_region
                go_wp2_with fail
                go_meet
                exact ⟨rfl, (Kept.refl _).drew⟩
              · obtain ⟨y, hy, hay⟩ := HSTOP.out.resolve_left h0
                obtain ⟨p, hp⟩ : ∃ p, j = p + 1 := ⟨j - 1, by omega⟩
                rw [show j - 1 = p by omega] at hy
                obtain ⟨b4, o4, y', rfl, hy', y0, y1, y2, hb4⟩ := elem_ch hOq (k := p) (by omega)
                obtain rfl : y = y' := by rw [hy] at hy'; simpa using hy'
                have e0 : ∀ p' : KeptFrom wr, p'.x.cell? ⟨b4, o4 + p * 3, none⟩ = some (.int .i64 y.f) := fun p' => p'.k.cell y0
                have e1 : ∀ p' : KeptFrom wr, p'.x.cell? ⟨b4, o4 + p * 3 + 1, none⟩ = some (.int .i64 y.t) := fun p' => p'.k.cell y1
                have e2 : ∀ p' : KeptFrom wr, p'.x.cell? ⟨b4, o4 + p * 3 + 2, none⟩ = some (.slice y.A y.n y.c) := fun p' => p'.k.cell y2
                have wj : IntKind.i64.wrap ((j : Int) - 1) = (p : Int) := by rw [IntWalk.i64_in _ (by omega)]; omega
                have l0 : (0 : Int) ≤ (p : Int) := by omega
                have l1 : (p : Int) < k := by omega
                have d3 : 0 < j := by omega
                have hcall := fun w' => ahead_any x y w'
                rw [hay] at hcall
                have HC := Lib.hid hcall
                clear hy hy' hcall y0 y1 y2 fq hp h0 hay
                refine wp_region_kept (by kernel_rfl) (by kernel_rfl) ?_
                repeat (quiet_step ((go_at_call 24; exact Calls.kept_of (HC.out _))))
                refine wpQuiet_nil ?_
                rintro _ ⟨⟨w4, k4⟩, rfl⟩
                go_wp2_with fail
                go_meet
                exact ⟨rfl, k4⟩
            case rest =>
              obtain ⟨rfl, hkc⟩ := hcut
              have hkc3 := hk3.trans hkc
              have bc := bq.kept hkc
              have hOc := hOq.kept hkc
              have t1 := hOc.to (m := j) hj
              have t2 := Sl.cutf (s := 3) (enc := Ch.cells) (fun _ => rfl) hOc (i := j) (m := k) hj (Nat.le_refl _)
              rw [flat_ch] at t1
              rw [List.take_of_length_le (by rw [List.length_drop]; have := HOL.out; omega)] at t2
              have r1 := run_cut_h appT_rchs VA k VC j (by omega)
              have r2 := run_cut_l appT_rchs VA k VC j hj
              obtain ⟨C2, hC2⟩ : ∃ C, cutA VA VC j 3 = C := ⟨_, rfl⟩
              rw [hC2] at t2 r2
              have p1 : (0 : Int) ≤ j := by omega
              have p2 : (j : Int) ≤ k := by omega
              have p3 : (j : Int) ≤ VC := by omega
              have ka := (Kept.refl wc).alloc (.cells #[] 49)
              have oa := own_lit (w := wc) (base := wc.heap.size) (e := 49) (size := 3) (n := 0) (cs := []) (by rfl) (by omega) (Nat.le_refl _)
              clear hC2 hOc hOq c0 c1 c2 bq fq HSTOP
              have cellsOne : ∀ l : List Ch, (l.flatMap Ch.cells).all (fun u => u.oneCell') = true := fun l => by
                rw [List.all_eq_true]
                intro v hv
                obtain ⟨y, _, hy⟩ := List.mem_flatMap.1 hv
                exact ch_one y v hy
              have CO := Lib.hid cellsOne
              clear cellsOne
              go_upto_region 11 with (at_builtin; refine wpList_appk wc (by rfl) _ _ (by rfl) appT_rchs (by rfl) oa ka (by rfl) (t1.kept ((Kept.refl _).alloc _)) ?_ ?_; (exact ⟨CO.out _, by omega⟩); (intro v5 w5 hown5 hk5 hgr5 hob5))
              rw [Nat.zero_add, List.nil_append] at hown5
              have f5 := (bc.kept hk5).cell
              go_upto_region 12 with (at_builtin; refine wpList_push wc (by rfl) _ _ (by rfl) appT_rchs (by rfl) hown5 hk5 (by rfl) (by exact ⟨by rfl, by rfl, by rfl, by omega⟩) ?_; intro v6 w6 hown6 hk6 hgr6 hob6)
              clear hob5 hgr5 hgr6 hob6 f5
              go_wp2_with (at_builtin; refine wpList_appk wc (by rfl) _ _ (by rfl) appT_rchs (by rfl) hown6 hk6 (by rfl) (t2.kept hk6) ?_ ?_; (exact ⟨CO.out _, by omega⟩); (intro v7 w7 hown7 hk7 hgr7 hob7; obtain ⟨VA7, VC7, rfl, hV7⟩ := own_sl hown7))
              clear hgr7 hob7 hown7 hown6 hown5
              go_roundw
              case rel =>
                refine ⟨k + 1, VA7, VC7, hlt, by go_num, by rw [show j + 1 + (k - j) = k + 1 by omega], ?_, hkc3.trans hk7, ?_⟩
                · have e : srtC (L.take (k + 1)) = OO.take j ++ x :: OO.drop j := by
                    rw [List.take_add_one, HX.out]
                    show srtC (L.take k ++ [x]) = _
                    rw [srtC_snoc, HOO.out]
                    exact HINS.out
                  rw [e, List.flatMap_append, List.flatMap_cons]
                  rw [show j + 1 + (k - j) = k + 1 by omega, List.append_assoc] at hV7
                  exact hV7
                · unfold Hid
                  rw [List.take_add_one, HX.out, List.map_append, List.all_append, hinv.out]
                  simp [HB.out]
              case measure =>
                simp [intOf]
                omega
    · obtain rfl : k = n := by omega
      have hall := hinv.out
      rw [List.take_of_length_le (by have := HL.out; omega)] at hall hO
      have HALL := Lib.hid hall
      have hmap := srtC_map L
      have hSl : (srtC L).length = k := by unfold srtC; rw [sortF_len, HL.out]
      have hoks : ∀ x ∈ srtC L, x.ok wr := fun x hx => (HOK.out x ((sortF_mem _).1 hx)).kept hkept
      obtain ⟨S, hSe⟩ : ∃ S, srtC L = S := ⟨_, rfl⟩
      rw [hSe] at hO hmap hSl hoks
      have HM := Lib.hid hmap
      have HO := Lib.hid hoks
      have HSl := Lib.hid hSl
      have oc := hO.cap
      have om := hO.max
      clear hall hmap hSl hSe hoks hinv
      go_wp2_with fail
      go_loopw [60] (fun i wq => ∃ j : Nat, j ≤ k ∧ i = .int .i64 j ∧ Kept wr wq ∧ Hid (meetK (S.map Ch.k) = meetK ((S.map Ch.k).drop (j - 1)))) (fun i _ => k - (intOf i).toNat)
      case atStart => exact ⟨0, Nat.zero_le _, rfl, Kept.refl _, rfl⟩
      case round =>
        obtain ⟨j, hjk, rfl, hkq, hinj⟩ := hrel
        by_cases hlt2 : j < k
        · have hSq := hO.kept hkq
          obtain ⟨b1, o1, x, rfl, hx, x0, x1, x2, hb1⟩ := elem_ch hSq hlt2
          have HX := Lib.hid hx
          clear hx
          have kb : Kept wr _ := (Kept.refl wr).alloc (.cells #[.int .i64 x.f, .int .i64 x.t, .slice x.A x.n x.c] 49)
          have bx := Blk.new wr #[.int .i64 x.f, .int .i64 x.t, .slice x.A x.n x.c] 49
          go_upto_region 18 with fail
          generalize wr.alloc (.cells #[.int .i64 x.f, .int .i64 x.t, .slice x.A x.n x.c] 49) = w3 at kb bx ⊢
          obtain ⟨g3, hg3⟩ : ∃ g3, wr.heap.size = g3 := ⟨_, rfl⟩
          rw [hg3] at bx ⊢
          clear hg3
          by_cases h0 : j = 0
          · have hm : meetK (S.map Ch.k) = meetK ((S.map Ch.k).drop (j + 1 - 1)) := by rw [h0]; rfl
            have HMM := Lib.hid hm
            have d3 : decide (0 < j) = false := by simp; omega
            clear h0 hm
            go_region
            go_wp2_with fail
            go_roundw
            case rel => exact ⟨j + 1, hlt2, by go_num, (hkq.trans kb).drew, HMM⟩
            case measure =>
              simp [intOf]
              omega
          · obtain ⟨b2, o2, y, e2, hy, y0, y1, _, hb2⟩ := elem_ch (hSq.kept kb) (k := j - 1) (by omega)
            injection e2 with e2
            injection e2 with e2 e2'
            subst e2 e2'
            obtain ⟨p, hp⟩ : ∃ p, j = p + 1 := ⟨j - 1, by omega⟩
            rw [show j - 1 = p by omega] at y0 y1 hy
            have HY := Lib.hid hy
            clear hy
            have wj : IntKind.i64.wrap ((j : Int) - 1) = (p : Int) := by rw [IntWalk.i64_in _ (by omega)]; omega
            have hx' : (S.map Ch.k)[j]? = some x.k := by rw [List.getElem?_map, HX.out]; rfl
            have hy' : (S.map Ch.k)[p]? = some y.k := by rw [List.getElem?_map, HY.out]; rfl
            have hstep : (S.map Ch.k).drop j = x.k :: (S.map Ch.k).drop (j + 1) := by
              obtain ⟨l2, e2⟩ := List.getElem?_eq_some_iff.1 hx'
              rw [List.drop_eq_getElem_cons l2, e2]
            have hstep2 : (S.map Ch.k).drop p = y.k :: (S.map Ch.k).drop j := by
              obtain ⟨l1, e1⟩ := List.getElem?_eq_some_iff.1 hy'
              rw [List.drop_eq_getElem_cons l1, e1, hp]
            have hm : meetK (S.map Ch.k) = (decide (x.f < y.t) || meetK ((S.map Ch.k).drop (j + 1 - 1))) := by
              rw [hinj.out, show j - 1 = p by omega, hstep2, Nat.add_sub_cancel, hstep]
              rfl
            have HMM := Lib.hid hm
            have l1 : (0 : Int) ≤ (p : Int) := by omega
            have l2 : (p : Int) < k := by omega
            have d3 : 0 < j := by omega
            have bf := bx.cell
            clear hm hstep hstep2 hinj hx' hy' hp h0
            by_cases hc : x.f < y.t
            · have d1 : decide (x.f < y.t) = true := by simpa using hc
              go_quiet (fail)
              go_wp2_with fail
              go_ret2
              have hE : errK (L.map Ch.k) = 9 := by
                unfold errK
                rw [HALL.out, ← HM.out, HMM.out, d1]
                rfl
              exact ⟨hkept.trans ((hkq.trans kb).drewN _), .inl ⟨by rw [hE]; decide, by rw [hE]; rfl⟩⟩
            · have d1 : decide (x.f < y.t) = false := by simpa using hc
              go_quiet (fail)
              go_wp2_with fail
              go_roundw
              case rel => exact ⟨j + 1, hlt2, by go_num, (hkq.trans kb).drewN _, by unfold Hid; rw [HMM.out, d1]; rfl⟩
              case measure =>
                simp [intOf]
                omega
        · obtain rfl : j = k := by omega
          go_wp2_with fail
          go_ret2
          have hE : errK (L.map Ch.k) = 0 := by
            unfold errK
            have hm0 : meetK (S.map Ch.k) = false := by
              rw [hinj.out]
              have hl : ((S.map Ch.k).drop (j - 1)).length ≤ 1 := by
                rw [List.length_drop, List.length_map, HSl.out]
                omega
              match hd : (S.map Ch.k).drop (j - 1), hl with
              | [], _ => rfl
              | [_], _ => rfl
              | _ :: _ :: _, hl => simp at hl
            rw [HALL.out, ← HM.out, hm0]
            rfl
          exact ⟨hkept.trans hkq, .inr ⟨hE, VA, j, VC, S, rfl, hO.kept hkq, fun x hx => (HO.out x hx).kept hkq, HM.out⟩⟩
end Go.Proofs.Ytdfipecgalnioaa
