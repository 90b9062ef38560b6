/- All that are bound: walked. -/
import Derived.Test.YtdlgjbijnhfbhaaScoG
import Derived.Test.YtdlgjbijnhfbhaaScoF
namespace Go.Proofs.Ytdlgjbijnhfbhaa
open Go.RowKit Go.Lib Go.Sort Go.Op
attribute [local go_sem ↓] Go.wp_at_zero Go.wp_at_succ

theorem own_at {w : World} {base : Nat} {e : TypeId} {s : Nat} {v : Value} {n : Nat} {xs : List Value} {g : Nat} (h : w.ownsRow base e s v n xs) (hg : v.ownBlock = some g) : ∃ c, v = .slice (some ⟨g, 0, none⟩) n c ∧ Sl w s (some ⟨g, 0, none⟩) n c xs ∧ base ≤ g ∧ g < w.heap.size ∧ ∀ j, w.frozen? ⟨g, j, none⟩ = false := by
  obtain ⟨A, c, rfl, hs⟩ := Sl.of_own h
  rcases h.2 with ⟨h0, _⟩ | ⟨g', cap, cur, h0, hb, hgg, _⟩
  · rw [h0] at hg
    simp [Value.ownBlock] at hg
  · injection h0 with h1 _ h2
    subst h1 h2
    simp [Value.ownBlock] at hg
    subst hg
    refine ⟨_, rfl, hs, hb, (Array.getElem?_eq_some_iff.1 hgg).1, fun j => ?_⟩
    simp [World.frozen?, hgg]
theorem own_nil {w : World} {base : Nat} {e : TypeId} {s : Nat} {v : Value} {n : Nat} {xs : List Value} (h : w.ownsRow base e s v n xs) (hg : v.ownBlock = none) : v = .slice none 0 0 ∧ n = 0 := by
  rcases h.2 with ⟨h1, rfl⟩ | ⟨g', cap, cur, h0, _⟩
  · exact ⟨h1, rfl⟩
  · rw [h0] at hg
    simp [Value.ownBlock] at hg
theorem hit2_any (o b : Bd) (g : Nat) (w : World) (hg : w.cell? ⟨g, 0, none⟩ = some (.string b.p)) (hgl : g < w.heap.size) :
    Calls Try.prog 29 #[.agg #[.string o.p, .string o.u], .pointer (some ⟨g, 0, none⟩)] w fun e w' => e = .returned (.bool (eqS o.p b.p)) ∧ Kept w w' := by
  have HV : Hid (eqS o.p b.p = (o.p.toList == b.p.toList)) := rfl
  generalize hz : eqS o.p b.p = z at HV ⊢
  have hz' : (o.p.toList == b.p.toList) = z := HV.out.symm
  clear hz HV
  go_enter Try.func29, Try.ntmps29
  go_wp2_with fail
  go_ret
  exact ⟨rfl, (Kept.refl _).alloc _⟩
set_option maxHeartbeats 2000000 in
theorem taken2_any (A : Option Addr) (n c : Nat) (L : List Bd) (b : Bd) (g : Nat) (w : World) (h : Sl w 2 A n c (L.flatMap Bd.cells)) (hg : w.cell? ⟨g, 0, none⟩ = some (.string b.p)) :
    Calls Try.prog 28 #[.slice A n c, .func (.func 29) #[] #[.pointer (some ⟨g, 0, none⟩)]] w fun e w' => e = .returned (.bool (L.any (fun o => eqS o.p b.p))) ∧ Kept w w' := by
  have hL := h.llen (enc := Bd.cells) (fun _ => rfl) (by omega)
  have HL := Lib.hid hL
  clear hL
  have hc : Calls Try.prog 42 #[.slice A n c, .func (.func 29) #[] #[.pointer (some ⟨g, 0, none⟩)]] w fun e w' => ∃ z : Int, e = .returned (.int .i64 z) ∧ decide (0 ≤ z) = L.any (fun o => eqS o.p b.p) ∧ Kept w w' := by
    have hcap := h.cap
    have hmax := h.max
    have HG := Lib.hid hg
    clear hg
    go_enter Try.func42, Try.ntmps42
    go_wp2_with fail
    go_loopw [8] (fun i wr => ∃ k : Nat, k ≤ n ∧ i = .int .i64 k ∧ Kept w wr ∧ Hid ((L.take k).any (fun o => eqS o.p b.p) = false)) (fun i _ => n - (intOf i).toNat)
    case atStart => exact ⟨0, Nat.zero_le _, rfl, Kept.refl _, rfl⟩
    case round =>
      obtain ⟨k, hk, rfl, hkept, hinv⟩ := hrel
      by_cases hlt : k < n
      · obtain ⟨b', o, x, rfl, hx, c0, c1, hb⟩ := elem_bd (h.kept hkept) hlt
        have HX := Lib.hid hx
        clear hx
        have hg2 := hkept.cell HG.out
        cases hbad : eqS x.p b.p
        · go_wp2_with fail
          refine (hit2_any x b g _ hg2 (World.block_lt_of_cell? _ _ hg2)).mono ?_
          rintro e w1 ⟨rfl, hk1⟩
          rw [hbad]
          go_wp2_with fail
          go_roundw
          case rel =>
            refine ⟨k + 1, hlt, by go_num, hkept.trans hk1, ?_⟩
            unfold Hid
            rw [List.take_add_one, HX.out, List.any_append, hinv.out]
            simp [hbad]
          case measure =>
            simp [intOf]
            omega
        · go_wp2_with fail
          refine (hit2_any x b g _ hg2 (World.block_lt_of_cell? _ _ hg2)).mono ?_
          rintro e w1 ⟨rfl, hk1⟩
          rw [hbad]
          go_wp2_with fail
          go_ret
          refine ⟨_, rfl, ?_, hkept.trans hk1⟩
          have : L.any (fun o => eqS o.p b.p) = true := by
            rw [List.any_eq_true]
            exact ⟨x, List.mem_of_getElem? HX.out, hbad⟩
          rw [this]
          simp
      · go_wp2_with fail
        go_ret
        refine ⟨_, rfl, ?_, hkept⟩
        have h1 := hinv.out
        rw [List.take_of_length_le (by have := HL.out; omega)] at h1
        rw [h1]
        rfl
  have HC := Lib.hid hc
  clear hc hg
  go_enter Try.func28, Try.ntmps28
  go_wp2_with fail
  refine HC.out.mono ?_
  rintro e w' ⟨z, rfl, hz, hk⟩
  have HZ := Lib.hid hz
  clear hz
  go_wp2_with fail
  go_ret
  exact ⟨ret_bool HZ.out, hk⟩


/-- What All answers. -/
def AllOf (ls : List (List Bd)) (w : World) (e : Ending) (w' : World) : Prop :=
  ∃ (A : Option Addr) (c : Nat) (L : List Bd), e = .returned (.slice A L.length c) ∧ Sl w' 2 A L.length c (L.flatMap Bd.cells) ∧ Kept w w' ∧ L.Perm (nubF [] ls.flatten) ∧ SortedIn (ltOf cmpB) 0 L.length L.toArray
set_option maxHeartbeats 8000000 in
theorem all_any (v : Value) (ls : List (List Bd)) (w : World) (hs : ScopeAt w v ls) (hn : (eff ls).flatten.length ≤ 1000000) :
    Calls Try.prog 17 #[v] w fun e w' => AllOf (eff ls) w e w' := by
  obtain ⟨LS, hLS⟩ : ∃ z, eff ls = z := ⟨_, rfl⟩
  have HLS := Lib.hid hLS
  rw [hLS] at hn ⊢
  have HS := Lib.hid hs
  clear hs hLS
  go_enter Try.func17, Try.ntmps17
  go_upto_region 2 with fail
  go_cut [8] (fun s wx => s = .bool ls.isEmpty ∧ wx = w)
  case first =>
    rcases scope_ptr HS.out with ⟨rfl, rfl⟩ | ⟨g, l, ls', rfl, rfl⟩
    · go_wp2_with fail
      go_meet
      exact ⟨rfl, rfl⟩
    · go_wp2_with fail
      go_meet
      exact ⟨rfl, rfl⟩
  case rest =>
  obtain ⟨rfl, rfl⟩ := hcut
  obtain ⟨w0, hw0⟩ : ∃ z, z = wc := ⟨_, rfl⟩
  subst hw0
  go_upto_if 8 with fail
  go_cut [0] (fun s wx => ScopeAt wx s LS ∧ Kept w0 wx)
  case first =>
    rcases scope_ptr HS.out with ⟨rfl, rfl⟩ | ⟨g, l, ls', rfl, rfl⟩
    · go_wp2_with fail
      refine (new_any _).mono ?_
      rintro e w6 ⟨g, rfl, hsc, k6⟩
      go_wp2_with fail
      go_meet
      exact ⟨by rw [← HLS.out]; exact hsc, k6⟩
    · go_wp2_with fail
      go_meet
      exact ⟨by rw [← HLS.out]; exact HS.out, Kept.refl _⟩
  case rest =>
  obtain ⟨hsc0, hk0⟩ := hcut
  have HS0 := Lib.hid hsc0
  clear hsc0 HS
  obtain ⟨w, hw⟩ : ∃ z, z = wc := ⟨_, rfl⟩
  subst hw
  go_wp2_with fail
  go_loopg [3, 4] LS.length (fun gq v s wr => ∃ (rest : List (List Bd)) (D : List Bd), gq = rest.length ∧ ScopeAt w s rest ∧ wr.ownsRow w.heap.size 45 2 v D.length (D.flatMap Bd.cells) ∧ Kept w wr ∧ Hid (nubF [] LS.flatten = nubF D rest.flatten) ∧ Hid (D.length + rest.flatten.length ≤ 1000000))
  case atStart => exact ⟨LS, [], rfl, HS0.out, ⟨rfl, .inl ⟨rfl, rfl⟩⟩, Kept.refl _, rfl, by unfold Hid; simpa using hn⟩
  case round =>
    obtain ⟨rest, D, hq, hsc, hown, hkept, hinv, hlen⟩ := hrel
    cases rest with
    | nil =>
      have hv : u4 = .pointer none := hsc
      subst hv
      have hE : nubF [] LS.flatten = D := by rw [hinv.out]; rfl
      have HE := Lib.hid hE
      have hD : D.length ≤ 1000000 := by have := hlen.out; simpa using this
      clear hE hinv hsc hlen hq
      cases hob : u3.ownBlock with
      | none =>
        obtain ⟨rfl, h0⟩ := own_nil hown hob
        have hD0 : D = [] := List.eq_nil_of_length_eq_zero h0
        subst hD0
        clear hob
        go_wp2_with fail
        refine (sortB_none _ _ _ _).mono ?_
        rintro e w5 ⟨rfl, rfl⟩
        go_wp2_with fail
        go_ret
        exact ⟨none, 0, [], rfl, Sl.nil_, hk0.trans hkept, by rw [HE.out], fun i j _ _ h => by simp at h⟩
      | some g =>
        obtain ⟨c, rfl, hsl, hge, hlt, hfr⟩ := own_at hown hob
        have hso := sortB_any g c D w wr hkept hge hsl (fun j _ => hfr j) hlt hD
        have HSO := Lib.hid hso
        clear hso hfr hob hown
        go_wp2_with fail
        refine HSO.out.mono ?_
        rintro e w5 ⟨L', rfl, hp, hsd, hS5, k5⟩
        have hl := hp.length_eq
        go_wp2_with fail
        go_ret
        exact ⟨_, c, L', by rw [hl]; rfl, hS5, hk0.trans k5, by rw [HE.out]; exact hp, hsd⟩
    | cons l rest =>
      obtain ⟨g', A, n, c, u, rfl, hb, hS, hu⟩ := hsc
      have hcap := hS.cap
      have hmax := hS.max
      have hL := hS.llen (enc := Bd.cells) (fun _ => rfl) (by omega)
      have HL := Lib.hid hL
      have bf := (hb.kept hkept).cell
      have HU := Lib.hid hu
      clear hL hu
      obtain ⟨w2, hw2⟩ : ∃ z, z = wr := ⟨_, rfl⟩
      subst hw2
      have HQ := Lib.hid hq
      clear hq
      go_wp2_with fail
      go_loopw [3, 22] (fun v i wr => ∃ (k : Nat) (D' : List Bd), k ≤ n ∧ i = .int .i64 k ∧ wr.ownsRow w.heap.size 45 2 v D'.length (D'.flatMap Bd.cells) ∧ Kept w wr ∧ Hid (nubF D (l ++ rest.flatten) = nubF D' (l.drop k ++ rest.flatten)) ∧ Hid (D'.length + (n - k) + rest.flatten.length ≤ 1000000)) (fun _ i _ => n - (intOf i).toNat)
      case atStart => exact ⟨0, D, Nat.zero_le _, rfl, hown, hkept, rfl, by unfold Hid; have := hlen.out; rw [List.flatten_cons, List.length_append, HL.out] at this; omega⟩
      case round =>
        clear hown
        obtain ⟨k, D', hk, rfl, hown, hkr, hinj, hlj⟩ := hrel
        by_cases hlt : k < n
        · obtain ⟨b, o, x, rfl, hx, x0, x1, hbb⟩ := elem_bd (hS.kept hkr) hlt
          have hst := hinj.out
          rw [drop_cons hx, List.cons_append] at hst
          have hDl : D'.length ≤ 1000000 := by have := hlj.out; omega
          have kb : Kept wr _ := (Kept.refl wr).alloc (.cells #[.string x.p, .string x.u] 45)
          have bx := Blk.new wr #[.string x.p, .string x.u] 45
          go_upto_region 10 with fail
          generalize wr.alloc (.cells #[.string x.p, .string x.u] 45) = w3 at kb bx ⊢
          obtain ⟨g3, hg3⟩ : ∃ g3, wr.heap.size = g3 := ⟨_, rfl⟩
          rw [hg3] at bx ⊢
          clear hg3
          have own3 := own_kept hown kb
          have k3 := hkr.trans kb
          have bf0 := bx.cell 0
          obtain ⟨VA, VC, rfl, hV⟩ := Sl.of_own own3
          have ht := taken2_any VA D'.length VC D' x g3 w3 hV bf0
          have HT := Lib.hid ht
          clear ht hV
          go_wp2_with fail
          refine HT.out.mono ?_
          rintro e w4 ⟨rfl, k4⟩
          have own4 := own_kept own3 k4
          have k34 := k3.trans k4
          have bx4 := (bx.kept k4).cell
          have b40 := bx4 0
          have b41 := bx4 1
          clear HT own3 bx4 bf0 hown
          cases hz : hasP x.p D' with
          | true =>
            have hz' : (D'.any fun o => eqS o.p x.p) = true := hz
            rw [hz']
            have hst2 : nubF D (l ++ rest.flatten) = nubF D' (l.drop (k + 1) ++ rest.flatten) := by
              rw [hst]
              show (if hasP x.p D' then _ else _) = _
              rw [hz, if_pos rfl]
            have HST := Lib.hid hst2
            clear hst hst2 hinj hz hz' hx
            go_wp2_with fail
            go_roundw
            case rel => exact ⟨k + 1, D', hlt, by go_num, own4, k34, HST.out, by unfold Hid; have := hlj.out; omega⟩
            case measure =>
              simp [intOf]
              omega
          | false =>
            have hz' : (D'.any fun o => eqS o.p x.p) = false := hz
            rw [hz']
            have hst2 : nubF D (l ++ rest.flatten) = nubF (D' ++ [x]) (l.drop (k + 1) ++ rest.flatten) := by
              rw [hst]
              show (if hasP x.p D' then _ else _) = _
              rw [hz, if_neg (by simp)]
            have HST := Lib.hid hst2
            clear hst hst2 hinj hz hz' hx
            go_wp2_with (at_builtin; refine wpList_push w (by rfl) _ _ (by rfl) appT_bds (by rfl) own4 k34 (by rfl) (by exact ⟨by rfl, by rfl, by rfl, by omega⟩) ?_; intro v5 w5 hown5 hk5 hgr5 hob5)
            clear hgr5 hob5
            go_roundw
            case rel =>
              refine ⟨k + 1, D' ++ [x], hlt, by go_num, ?_, hk5, HST.out, by unfold Hid; have := hlj.out; rw [List.length_append, List.length_singleton]; omega⟩
              rw [List.length_append, List.flatMap_append]
              exact hown5
            case measure =>
              simp [intOf]
              omega
        · obtain rfl : k = n := by omega
          have hE : nubF [] LS.flatten = nubF D' rest.flatten := by
            rw [hinv.out, List.flatten_cons, hinj.out, List.drop_eq_nil_of_le (by have := HL.out; omega), List.nil_append]
          have HE := Lib.hid hE
          have bf2 := (hb.kept hkr).cell
          clear hE hinj
          go_wp2_with fail
          go_roundg rest.length
          case rel => exact ⟨rest, D', rfl, HU.out, hown, hkr, HE.out, by unfold Hid; have := hlj.out; omega⟩
          case measure =>
            rw [HQ.out]
            simp
end Go.Proofs.Ytdlgjbijnhfbhaa
