/- Layer 14: the document's text, Put: walked. -/
import Derived.Test.YtennpgdoepdboaaRefsF
namespace Go.Proofs.Ytennpgdoepdboaa
open Go.RowKit
attribute [local go_sem ↓] Go.wp_at_zero Go.wp_at_succ

set_option maxHeartbeats 4000000 in
theorem rtext_any (S : ByteArray) (w : World) (hsz : S.size ≤ 1000) :
    Calls Try.prog 38 #[.string S] w fun e w' => ∃ VA VC, e = .returned (.slice VA S.size VC) ∧ Sl w' 1 VA S.size VC ((strI S).map (Value.int .i32)) ∧ Kept w w' := by
  go_enter Try.func38, Try.ntmps38
  go_wp2_with fail
  go_loopw [3, 4] (fun v u wr => ∃ (k : Nat) (VA : Option Addr) (VC : Nat), k ≤ S.size ∧ u = .int .i64 k ∧ v = .slice VA k VC ∧ wr.ownsRow w.heap.size 21 1 (.slice VA k VC) k (((strI S).take k).map (Value.int .i32)) ∧ Kept w wr)
    (fun _ u _ => S.size - (intOf u).toNat)
  case atStart => exact ⟨0, none, 0, Nat.zero_le _, rfl, rfl, World.ownsRow_nil _ _ _ _, Kept.refl _⟩
  case round =>
    obtain ⟨k, VA, VC, hks, rfl, rfl, hown, hk⟩ := hrel
    by_cases hp : k < S.size
    · have l0 : (0 : Int) ≤ k := by omega
      have l1 : (k : Int) < S.size := by omega
      have wa : IntKind.i64.wrap ((k : Int) + 1) = (k : Int) + 1 := IntWalk.i64_in _ (by omega)
      have h256 := (S[k]'hp).toNat_lt
      have w32 : IntKind.i32.wrap ((S[k]'hp).toNat : Int) = ((S[k]'hp).toNat : Int) := IntWalk.i32_in _ (by omega)
      have HSN := Lib.hid (strI_snoc hp)
      have hsz2 := hk.size
      go_wp2_with (at_builtin; refine wpList_app (by rfl) _ _ (by rfl) appT_runes (by rfl) (hown.alloc _) (by rfl) (Sl.litg (by rfl) ?_ (by omega)) ?_ ?_ ?_ ?_; (exact rfl); (exact rfl); (omega); (simp; omega); (intro v' w' hown' hgr hob; obtain ⟨VA', VC', rfl, hVs⟩ := own_sl hown'))
      have hk3 : Kept w w' := (hk.alloc _).grown hgr (fun k e => by have := hown.lt k e; omega)
      clear hown hgr hob hVs
      go_roundw
      case rel => exact ⟨k + 1, VA', VC', hp, by simp, rfl, by rw [HSN.out, List.map_append]; exact hown', hk3⟩
      case measure =>
        simp [intOf]
        omega
    · have hkk : k = S.size := by omega
      have d1 : decide ((k : Int) < S.size) = false := by simp; omega
      obtain ⟨A2, c2, hVe, hV⟩ := own_sl hown
      injection hVe with e1 e2 e3
      subst e1 e3
      rw [List.take_of_length_le (by rw [strI_len]; omega)] at hV
      subst hkk
      go_wp2_with fail
      go_ret
      exact ⟨VA, VC, rfl, hV, hk⟩
theorem rput_final (x q y1 y2 : Int) (i : Nat) :
    (if ((q == 34 || q == 39) && (x == q) && (x == 39)) = true then ([38, 97, 112, 111, 115, 59] : List Int) else if ((q == 34 || q == 39) && (x == q) && (x == 34)) = true then [38, 113, 117, 111, 116, 59] else if ((q == 34 || q == 39) && (x == 10)) = true then [38, 35, 120, 65, 59] else if ((q == 34 || q == 39) && (x == 9)) = true then [38, 35, 120, 57, 59] else if (x == 13) = true then [38, 35, 120, 68, 59] else if ((x == 62) && decide (2 ≤ i) && (y1 == 93) && (y2 == 93)) = true then [38, 103, 116, 59] else if (x == 60) = true then [38, 108, 116, 59] else if (x == 38) = true then [38, 97, 109, 112, 59] else [x]) =
    if (if x = 38 then [38, 97, 109, 112, 59] else if x = 60 then [38, 108, 116, 59] else if x = 62 ∧ 2 ≤ i ∧ y1 = 93 ∧ y2 = 93 then [38, 103, 116, 59] else if x = 13 then [38, 35, 120, 68, 59] else if ¬ (q = 34 ∨ q = 39) then [] else if x = q ∧ x = 34 then [38, 113, 117, 111, 116, 59] else if x = q then [38, 97, 112, 111, 115, 59] else if x = 9 then [38, 35, 120, 57, 59] else if x = 10 then [38, 35, 120, 65, 59] else ([] : List Int)) = [] then [x] else (if x = 38 then [38, 97, 109, 112, 59] else if x = 60 then [38, 108, 116, 59] else if x = 62 ∧ 2 ≤ i ∧ y1 = 93 ∧ y2 = 93 then [38, 103, 116, 59] else if x = 13 then [38, 35, 120, 68, 59] else if ¬ (q = 34 ∨ q = 39) then [] else if x = q ∧ x = 34 then [38, 113, 117, 111, 116, 59] else if x = q then [38, 97, 112, 111, 115, 59] else if x = 9 then [38, 35, 120, 57, 59] else if x = 10 then [38, 35, 120, 65, 59] else ([] : List Int)) := by
  rcases (show q = 34 ∨ q = 39 ∨ (q ≠ 34 ∧ q ≠ 39) by omega) with rfl | rfl | ⟨hq1, hq2⟩
  all_goals
    rcases (show x = 38 ∨ x = 60 ∨ x = 13 ∨ x = 62 ∨ x = 9 ∨ x = 10 ∨ x = 34 ∨ x = 39 ∨ (x ≠ 38 ∧ x ≠ 60 ∧ x ≠ 13 ∧ x ≠ 62 ∧ x ≠ 9 ∧ x ≠ 10 ∧ x ≠ 34 ∧ x ≠ 39) by omega) with rfl | rfl | rfl | rfl | rfl | rfl | rfl | rfl | ⟨n1, n2, n3, n4, n5, n6, n7, n8⟩
    all_goals first
      | (simp [*]; done)
      | (by_cases a1 : 2 ≤ i <;> by_cases a2 : y1 = 93 <;> by_cases a3 : y2 = 93 <;> simp [*])
set_option maxRecDepth 100000 in
set_option maxHeartbeats 16000000 in
theorem rput_any (A : Option Addr) (n c : Nat) (l : List Int) (q : Int) (w : World) (h : Sl w 1 A n c (l.map (Value.int .i32))) (hn : n ≤ 1000000) :
    Calls Try.prog 23 #[.slice A n c, .int .i32 q] w fun e w' => ∃ VA VC, e = .returned (.slice VA (putF l q 0).length VC) ∧ Sl w' 1 VA (putF l q 0).length VC ((putF l q 0).map (Value.int .i32)) ∧ Kept w w' := by
  have hcap := h.cap
  have hmax := h.max
  have HL := Lib.hid h.llen1
  obtain ⟨IN, hIN⟩ : ∃ z : Bool, ((q == 34) || (q == 39)) = z := ⟨_, rfl⟩
  go_enter Try.func23, Try.ntmps23
  go_upto_region 1 with fail
  go_cut [5] (fun v wx => v = .bool IN ∧ w = wx)
  case first =>
    cases d34 : (q == 34) <;> cases d39 : (q == 39)
    all_goals
      go_wp2_with fail
      go_meet
      exact ⟨by rw [← hIN, d34, d39]; rfl, rfl⟩
  case rest =>
  obtain ⟨rfl, rfl⟩ := hcut
  have HIN := Lib.hid hIN
  clear hIN
  go_wp2_with fail
  go_loopw [6, 18] (fun v u wr => ∃ (i : Nat) (D : List Int) (VA : Option Addr) (VC : Nat), i ≤ n ∧ u = .int .i64 i ∧ v = .slice VA D.length VC ∧ D.length ≤ 6 * i ∧ wr.ownsRow w.heap.size 21 1 (.slice VA D.length VC) D.length (D.map (Value.int .i32)) ∧ Kept w wr ∧ Hid (putF l q 0 = D ++ putF l q i))
    (fun _ u _ => n - (intOf u).toNat)
  case atStart => exact ⟨0, [], none, 0, Nat.zero_le _, rfl, rfl, Nat.zero_le _, World.ownsRow_nil _ _ _ _, Kept.refl _, rfl⟩
  case round =>
    obtain ⟨i, D, VA, VC, hin, rfl, rfl, hD, hown, hk, hinv⟩ := hrel
    by_cases hp : i < n
    · obtain ⟨b, o, x, rfl, hx, hc, hb⟩ := (h.kept hk).oneb (k := i) hp
      have hxd : l.getD i 0 = x := by rw [List.getD_eq_getElem?_getD, hx]; rfl
      have hy1 : ∃ y1, l.getD (i - 1) 0 = y1 ∧ (2 ≤ i → wr.cell? ⟨b, o + (i - 1), none⟩ = some (.int .i32 y1)) := by
        refine ⟨_, rfl, fun h2 => ?_⟩
        obtain ⟨b', o', x', he, hx', hc', _⟩ := (h.kept hk).oneb (k := i - 1) (by omega)
        injection he with he
        injection he with e1 e2
        subst e1 e2
        rw [hc', List.getD_eq_getElem?_getD, hx']
        rfl
      have hy2 : ∃ y2, l.getD (i - 2) 0 = y2 ∧ (2 ≤ i → wr.cell? ⟨b, o + (i - 2), none⟩ = some (.int .i32 y2)) := by
        refine ⟨_, rfl, fun h2 => ?_⟩
        obtain ⟨b', o', x', he, hx', hc', _⟩ := (h.kept hk).oneb (k := i - 2) (by omega)
        injection he with he
        injection he with e1 e2
        subst e1 e2
        rw [hc', List.getD_eq_getElem?_getD, hx']
        rfl
      obtain ⟨y1, hy1, hc1⟩ := hy1
      obtain ⟨y2, hy2, hc2⟩ := hy2
      have l0 : (0 : Int) ≤ i := by omega
      have l1 : (i : Int) < n := by omega
      have wa : IntKind.i64.wrap ((i : Int) + 1) = (i : Int) + 1 := IntWalk.i64_in _ (by omega)
      have hst := putF_step (q := q) (show i < l.length by have := HL.out; omega)
      have HST := Lib.hid hst
      have hol := sign_len l i q
      obtain ⟨S, hS⟩ : ∃ S, outF l i q = S := ⟨_, rfl⟩
      have hS2 := hS
      unfold outF signF at hS2
      rw [hxd, hy1, hy2] at hS2
      dsimp only at hS2
      rw [hS] at hst hol
      have HST := Lib.hid hst
      have HS := Lib.hid hS2
      have hsz := hk.size
      have hbn : (b = wr.heap.size) = False := by simp; omega
      clear hS hS2 hx hxd hy1 hy2 hst
      obtain ⟨x9, hx9⟩ : ∃ z, (x == 9) = z := ⟨_, rfl⟩
      obtain ⟨x10, hx10⟩ : ∃ z, (x == 10) = z := ⟨_, rfl⟩
      obtain ⟨x34, hx34⟩ : ∃ z, (x == 34) = z := ⟨_, rfl⟩
      obtain ⟨x39, hx39⟩ : ∃ z, (x == 39) = z := ⟨_, rfl⟩
      obtain ⟨x62, hx62⟩ : ∃ z, (x == 62) = z := ⟨_, rfl⟩
      obtain ⟨xq, hxq⟩ : ∃ z, (x == q) = z := ⟨_, rfl⟩
      obtain ⟨y1b, hy1b⟩ : ∃ z, (y1 == 93) = z := ⟨_, rfl⟩
      obtain ⟨y2b, hy2b⟩ : ∃ z, (y2 == 93) = z := ⟨_, rfl⟩
      obtain ⟨t1, ht1⟩ : ∃ z, (x == 38) = z := ⟨_, rfl⟩
      obtain ⟨t2, ht2⟩ : ∃ z, (x == 60) = z := ⟨_, rfl⟩
      obtain ⟨t4, ht4⟩ : ∃ z, (x == 13) = z := ⟨_, rfl⟩
      obtain ⟨t3, ht3⟩ : ∃ z, (x62 && decide (2 ≤ i) && y1b && y2b) = z := ⟨_, rfl⟩
      obtain ⟨t5, ht5⟩ : ∃ z, (IN && x9) = z := ⟨_, rfl⟩
      obtain ⟨t6, ht6⟩ : ∃ z, (IN && x10) = z := ⟨_, rfl⟩
      obtain ⟨t7, ht7⟩ : ∃ z, (IN && xq && x34) = z := ⟨_, rfl⟩
      obtain ⟨t8, ht8⟩ : ∃ z, (IN && xq && x39) = z := ⟨_, rfl⟩
      obtain ⟨G1, hG1⟩ : ∃ G, (if t1 = true then ([38, 97, 109, 112, 59] : List Int) else [x]) = G := ⟨_, rfl⟩
      obtain ⟨G2, hG2⟩ : ∃ G, (if t2 = true then ([38, 108, 116, 59] : List Int) else G1) = G := ⟨_, rfl⟩
      obtain ⟨G3, hG3⟩ : ∃ G, (if t3 = true then ([38, 103, 116, 59] : List Int) else G2) = G := ⟨_, rfl⟩
      obtain ⟨G4, hG4⟩ : ∃ G, (if t4 = true then ([38, 35, 120, 68, 59] : List Int) else G3) = G := ⟨_, rfl⟩
      obtain ⟨G5, hG5⟩ : ∃ G, (if t5 = true then ([38, 35, 120, 57, 59] : List Int) else G4) = G := ⟨_, rfl⟩
      obtain ⟨G6, hG6⟩ : ∃ G, (if t6 = true then ([38, 35, 120, 65, 59] : List Int) else G5) = G := ⟨_, rfl⟩
      obtain ⟨G7, hG7⟩ : ∃ G, (if t7 = true then ([38, 113, 117, 111, 116, 59] : List Int) else G6) = G := ⟨_, rfl⟩
      obtain ⟨G8, hG8⟩ : ∃ G, (if t8 = true then ([38, 97, 112, 111, 115, 59] : List Int) else G7) = G := ⟨_, rfl⟩
      have hfinal : G8 = S := by
        rw [← hG8, ← hG7, ← hG6, ← hG5, ← hG4, ← hG3, ← hG2, ← hG1, ← HS.out, ← ht1, ← ht2, ← ht4, ← ht3, ← ht5, ← ht6, ← ht7, ← ht8, ← hx9, ← hx10, ← hx34, ← hx39, ← hx62, ← hxq, ← hy1b, ← hy2b, ← HIN.out]
        exact rput_final x q y1 y2 i
      have HG1 := Lib.hid hG1
      have HG2 := Lib.hid hG2
      have HG3 := Lib.hid hG3
      have HG4 := Lib.hid hG4
      have HG5 := Lib.hid hG5
      have HG6 := Lib.hid hG6
      have HG7 := Lib.hid hG7
      have HG8 := Lib.hid hG8
      have hb0 := Sl.litg (w := wr) (xs := [x].map (Value.int .i32)) (s := 1) (n := 1) (t := 21) (g := wr.heap.size) rfl rfl (by omega)
      have hkb0 : Kept wr (wr.alloc (.cells ([x].map (Value.int .i32)).toArray 21)) := (Kept.refl _).alloc _
      clear hG1 hG2 hG3 hG4 hG5 hG6 hG7 hG8
      have HT3 := Lib.hid ht3
      have HT5 := Lib.hid ht5
      have HT6 := Lib.hid ht6
      have HT7 := Lib.hid ht7
      have HT8 := Lib.hid ht8
      clear ht3 ht5 ht6 ht7 ht8
      go_upto_region 6 with fail
      go_cut [9] (fun v wx => ∃ (TA : Option Addr) (TC : Nat), v = .slice TA 1 TC ∧ Sl wx 1 TA 1 TC ([x].map (Value.int .i32)) ∧ Kept wr wx)
      case first =>
        as_aux_lemma =>
          go_wp2_with fail
          go_meet
          exact ⟨_, _, rfl, hb0, hkb0⟩
      case rest =>
      clear hb0 hkb0
      obtain ⟨TA, TC, rfl, hT, hkT⟩ := hcut
      go_upto_if 26 with fail
      go_cut [9] (fun v wx => ∃ (TA : Option Addr) (TC : Nat), v = .slice TA G1.length TC ∧ Sl wx 1 TA G1.length TC (G1.map (Value.int .i32)) ∧ Kept wr wx)
      case first =>
        as_aux_lemma =>
          cases t1
          · obtain rfl : [x] = G1 := HG1.out
            go_wp2_with fail
            go_meet
            exact ⟨_, _, rfl, hT, hkT⟩
          · obtain rfl : ([38, 97, 109, 112, 59] : List Int) = G1 := HG1.out
            go_wp2_with fail
            refine (rtext_any ⟨#[38, 97, 109, 112, 59]⟩ _ (by decide)).mono ?_
            rintro e wt ⟨UA, UC, rfl, hU, kU⟩
            go_wp2_with fail
            go_meet
            exact ⟨UA, UC, rfl, hU, hkT.trans kU⟩
      case rest =>
      clear hT hkT
      obtain ⟨TA, TC, rfl, hT, hkT⟩ := hcut
      go_upto_if 29 with fail
      go_cut [9] (fun v wx => ∃ (TA : Option Addr) (TC : Nat), v = .slice TA G2.length TC ∧ Sl wx 1 TA G2.length TC (G2.map (Value.int .i32)) ∧ Kept wr wx)
      case first =>
        as_aux_lemma =>
          cases t2
          · obtain rfl : G1 = G2 := HG2.out
            go_wp2_with fail
            go_meet
            exact ⟨_, _, rfl, hT, hkT⟩
          · obtain rfl : ([38, 108, 116, 59] : List Int) = G2 := HG2.out
            go_wp2_with fail
            refine (rtext_any ⟨#[38, 108, 116, 59]⟩ _ (by decide)).mono ?_
            rintro e wt ⟨UA, UC, rfl, hU, kU⟩
            go_wp2_with fail
            go_meet
            exact ⟨UA, UC, rfl, hU, hkT.trans kU⟩
      case rest =>
      clear hT hkT
      obtain ⟨TA, TC, rfl, hT, hkT⟩ := hcut
      go_upto_region 11 with fail
      go_cut [52] (fun v wx => v = .bool t3 ∧ wc = wx)
      case first =>
        as_aux_lemma =>
          cases x62
          · go_wp2_with fail
            go_meet
            exact ⟨by rw [← HT3.out]; rfl, rfl⟩
          · by_cases h2 : 2 ≤ i
            · have hc1 := hkT.cell (hc1 h2)
              have hc2 := hkT.cell (hc2 h2)
              have d2 : decide ((1 : Int) < i) = true := by simp; omega
              have d2' : decide (1 < i) = true := by simp; omega
              have wm1 : IntKind.i64.wrap ((i : Int) - 1) = ((i - 1 : Nat) : Int) := by rw [IntWalk.i64_in _ (by omega)]; omega
              have wm2 : IntKind.i64.wrap ((i : Int) - 2) = ((i - 2 : Nat) : Int) := by rw [IntWalk.i64_in _ (by omega)]; omega
              have j0 : (0 : Int) ≤ ((i - 1 : Nat) : Int) := by omega
              have j1 : ((i - 1 : Nat) : Int) < n := by omega
              have j2 : (0 : Int) ≤ ((i - 2 : Nat) : Int) := by omega
              have j3 : ((i - 2 : Nat) : Int) < n := by omega
              cases y1b <;> cases y2b
              all_goals
                go_wp2_with fail
                go_meet
                exact ⟨by rw [← HT3.out]; simp [h2], rfl⟩
            · have d2 : decide ((1 : Int) < i) = false := by simp; omega
              have d2' : decide (1 < i) = false := by simp; omega
              go_wp2_with fail
              go_meet
              exact ⟨by rw [← HT3.out]; simp [h2], rfl⟩
      case rest =>
      obtain ⟨rfl, rfl⟩ := hcut
      go_upto_if 52 with fail
      go_cut [9] (fun v wx => ∃ (TA : Option Addr) (TC : Nat), v = .slice TA G3.length TC ∧ Sl wx 1 TA G3.length TC (G3.map (Value.int .i32)) ∧ Kept wr wx)
      case first =>
        as_aux_lemma =>
          cases t3
          · obtain rfl : G2 = G3 := HG3.out
            go_wp2_with fail
            go_meet
            exact ⟨_, _, rfl, hT, hkT⟩
          · obtain rfl : ([38, 103, 116, 59] : List Int) = G3 := HG3.out
            go_wp2_with fail
            refine (rtext_any ⟨#[38, 103, 116, 59]⟩ _ (by decide)).mono ?_
            rintro e wt ⟨UA, UC, rfl, hU, kU⟩
            go_wp2_with fail
            go_meet
            exact ⟨UA, UC, rfl, hU, hkT.trans kU⟩
      case rest =>
      clear hT hkT
      obtain ⟨TA, TC, rfl, hT, hkT⟩ := hcut
      go_upto_if 55 with fail
      go_cut [9] (fun v wx => ∃ (TA : Option Addr) (TC : Nat), v = .slice TA G4.length TC ∧ Sl wx 1 TA G4.length TC (G4.map (Value.int .i32)) ∧ Kept wr wx)
      case first =>
        as_aux_lemma =>
          cases t4
          · obtain rfl : G3 = G4 := HG4.out
            go_wp2_with fail
            go_meet
            exact ⟨_, _, rfl, hT, hkT⟩
          · obtain rfl : ([38, 35, 120, 68, 59] : List Int) = G4 := HG4.out
            go_wp2_with fail
            refine (rtext_any ⟨#[38, 35, 120, 68, 59]⟩ _ (by decide)).mono ?_
            rintro e wt ⟨UA, UC, rfl, hU, kU⟩
            go_wp2_with fail
            go_meet
            exact ⟨UA, UC, rfl, hU, hkT.trans kU⟩
      case rest =>
      clear hT hkT
      obtain ⟨TA, TC, rfl, hT, hkT⟩ := hcut
      go_upto_region 15 with fail
      go_cut [61] (fun v wx => v = .bool t5 ∧ wc = wx)
      case first =>
        as_aux_lemma =>
          cases IN <;> cases x9
          all_goals
            go_wp2_with fail
            go_meet
            exact ⟨by rw [← HT5.out]; rfl, rfl⟩
      case rest =>
      obtain ⟨rfl, rfl⟩ := hcut
      go_upto_if 61 with fail
      go_cut [9] (fun v wx => ∃ (TA : Option Addr) (TC : Nat), v = .slice TA G5.length TC ∧ Sl wx 1 TA G5.length TC (G5.map (Value.int .i32)) ∧ Kept wr wx)
      case first =>
        as_aux_lemma =>
          cases t5
          · obtain rfl : G4 = G5 := HG5.out
            go_wp2_with fail
            go_meet
            exact ⟨_, _, rfl, hT, hkT⟩
          · obtain rfl : ([38, 35, 120, 57, 59] : List Int) = G5 := HG5.out
            go_wp2_with fail
            refine (rtext_any ⟨#[38, 35, 120, 57, 59]⟩ _ (by decide)).mono ?_
            rintro e wt ⟨UA, UC, rfl, hU, kU⟩
            go_wp2_with fail
            go_meet
            exact ⟨UA, UC, rfl, hU, hkT.trans kU⟩
      case rest =>
      clear hT hkT
      obtain ⟨TA, TC, rfl, hT, hkT⟩ := hcut
      go_upto_region 17 with fail
      go_cut [67] (fun v wx => v = .bool t6 ∧ wc = wx)
      case first =>
        as_aux_lemma =>
          cases IN <;> cases x10
          all_goals
            go_wp2_with fail
            go_meet
            exact ⟨by rw [← HT6.out]; rfl, rfl⟩
      case rest =>
      obtain ⟨rfl, rfl⟩ := hcut
      go_upto_if 67 with fail
      go_cut [9] (fun v wx => ∃ (TA : Option Addr) (TC : Nat), v = .slice TA G6.length TC ∧ Sl wx 1 TA G6.length TC (G6.map (Value.int .i32)) ∧ Kept wr wx)
      case first =>
        as_aux_lemma =>
          cases t6
          · obtain rfl : G5 = G6 := HG6.out
            go_wp2_with fail
            go_meet
            exact ⟨_, _, rfl, hT, hkT⟩
          · obtain rfl : ([38, 35, 120, 65, 59] : List Int) = G6 := HG6.out
            go_wp2_with fail
            refine (rtext_any ⟨#[38, 35, 120, 65, 59]⟩ _ (by decide)).mono ?_
            rintro e wt ⟨UA, UC, rfl, hU, kU⟩
            go_wp2_with fail
            go_meet
            exact ⟨UA, UC, rfl, hU, hkT.trans kU⟩
      case rest =>
      clear hT hkT
      obtain ⟨TA, TC, rfl, hT, hkT⟩ := hcut
      go_upto_region 19 with fail
      go_cut [78] (fun v wx => v = .bool t7 ∧ wc = wx)
      case first =>
        as_aux_lemma =>
          cases IN <;> cases xq <;> cases x34
          all_goals
            go_wp2_with fail
            go_meet
            exact ⟨by rw [← HT7.out]; rfl, rfl⟩
      case rest =>
      obtain ⟨rfl, rfl⟩ := hcut
      go_upto_if 78 with fail
      go_cut [9] (fun v wx => ∃ (TA : Option Addr) (TC : Nat), v = .slice TA G7.length TC ∧ Sl wx 1 TA G7.length TC (G7.map (Value.int .i32)) ∧ Kept wr wx)
      case first =>
        as_aux_lemma =>
          cases t7
          · obtain rfl : G6 = G7 := HG7.out
            go_wp2_with fail
            go_meet
            exact ⟨_, _, rfl, hT, hkT⟩
          · obtain rfl : ([38, 113, 117, 111, 116, 59] : List Int) = G7 := HG7.out
            go_wp2_with fail
            refine (rtext_any ⟨#[38, 113, 117, 111, 116, 59]⟩ _ (by decide)).mono ?_
            rintro e wt ⟨UA, UC, rfl, hU, kU⟩
            go_wp2_with fail
            go_meet
            exact ⟨UA, UC, rfl, hU, hkT.trans kU⟩
      case rest =>
      clear hT hkT
      obtain ⟨TA, TC, rfl, hT, hkT⟩ := hcut
      go_upto_region 21 with fail
      go_cut [89] (fun v wx => v = .bool t8 ∧ wc = wx)
      case first =>
        as_aux_lemma =>
          cases IN <;> cases xq <;> cases x39
          all_goals
            go_wp2_with fail
            go_meet
            exact ⟨by rw [← HT8.out]; rfl, rfl⟩
      case rest =>
      obtain ⟨rfl, rfl⟩ := hcut
      go_upto_if 89 with fail
      go_cut [9] (fun v wx => ∃ (TA : Option Addr) (TC : Nat), v = .slice TA G8.length TC ∧ Sl wx 1 TA G8.length TC (G8.map (Value.int .i32)) ∧ Kept wr wx)
      case first =>
        as_aux_lemma =>
          cases t8
          · obtain rfl : G7 = G8 := HG8.out
            go_wp2_with fail
            go_meet
            exact ⟨_, _, rfl, hT, hkT⟩
          · obtain rfl : ([38, 97, 112, 111, 115, 59] : List Int) = G8 := HG8.out
            go_wp2_with fail
            refine (rtext_any ⟨#[38, 97, 112, 111, 115, 59]⟩ _ (by decide)).mono ?_
            rintro e wt ⟨UA, UC, rfl, hU, kU⟩
            go_wp2_with fail
            go_meet
            exact ⟨UA, UC, rfl, hU, hkT.trans kU⟩
      case rest =>
      clear hT hkT
      obtain ⟨TA, TC, rfl, hT, hkT⟩ := hcut
      rw [hfinal] at hT
      have hS8 : G8.length = S.length := by rw [hfinal]
      have hownT := own_kept hown hkT
      have hkW := hk.trans hkT
      have hsw := hkW.size
      clear hown hfinal
      go_wp2_with (at_builtin; refine wpList_app (by rfl) _ _ (by rfl) appT_runes (by rfl) hownT (by rw [← hS8]; rfl) hT ?_ ?_ ?_ ?_; (exact ints_one _ _); (omega); (omega); (intro v' w' hown' hgr hob; obtain ⟨VA', VC', rfl, hVs⟩ := own_sl hown'))
      have hk3 : Kept w w' := hkW.grown hgr (fun k e => by have := hownT.lt k e; omega)
      clear hownT hgr hob hVs
      go_roundw
      case rel => exact ⟨i + 1, D ++ S, VA', VC', hp, by simp, by rw [List.length_append], by rw [List.length_append]; omega, by rw [List.length_append, List.map_append]; exact hown', hk3, by unfold Hid; rw [hinv.out, HST.out, List.append_assoc]⟩
      case measure =>
        simp [intOf]
        omega
    · have d1 : decide ((i : Int) < n) = false := by simp; omega
      obtain ⟨A2, c2, hVe, hV⟩ := own_sl hown
      injection hVe with e1 e2 e3
      subst e1 e3
      have hfin : putF l q 0 = D := by rw [hinv.out, putF_end (by have := HL.out; omega), List.append_nil]
      have HF := Lib.hid hfin
      clear hfin
      go_wp2_with fail
      go_ret
      exact ⟨VA, VC, by rw [HF.out]; rfl, by rw [HF.out]; exact hV, hk⟩
end Go.Proofs.Ytennpgdoepdboaa
