/- conf.Parse: walked. -/
import Derived.Test.YtmicmmbdkmmnoaaConQ
import Derived.Test.YtmicmmbdkmmnoaaConV
namespace Go.Proofs.Ytmicmmbdkmmnoaa
open Go.RowKit
attribute [local go_sem ↓] Go.wp_at_zero Go.wp_at_succ

theorem grownL_cell {w w' : World} {row : Option Nat} {s n c : Nat} {A : Option Addr} {xs : List Value} (h : Sl w s A n c xs) (hg : w.grownBy w' row) (hne : 0 < n → ∀ b o, A = some ⟨b, o, none⟩ → some b ≠ row) : Sl w' s A n c xs :=
  ⟨h.1, h.2.1, h.2.2.1, fun hn => by
    obtain ⟨b, o, e, hc⟩ := h.2.2.2 hn
    exact ⟨b, o, e, fun j u hu => grown_cell hg (hc j u hu) (hne hn b o e)⟩⟩
theorem cf_cell {c : Cf} {i : Nat} {s : ByteArray} : c.cells[i]? ≠ some (.string s) := by
  intro h
  obtain ⟨hi, h⟩ := Array.getElem?_eq_some_iff.1 h
  have hi' : i < 7 := hi
  rcases (show i = 0 ∨ i = 1 ∨ i = 2 ∨ i = 3 ∨ i = 4 ∨ i = 5 ∨ i = 6 by omega) with rfl | rfl | rfl | rfl | rfl | rfl | rfl <;> cases h
/-- Texts lie in no block of a config. -/
theorem sl_ne {w : World} {A : Option Addr} {n c g : Nat} {L : List ByteArray} {cf : Cf} {t : TypeId} (h : Sl w 1 A n c (L.map Value.string)) (hb : Blk w g cf.cells t) : 0 < n → ∀ b o, A = some ⟨b, o, none⟩ → some b ≠ some g := by
  intro hn b o e1 e2
  injection e2 with e2
  subst e2
  obtain ⟨b', o', x, e3, _, hc⟩ := h.one hn
  rw [e1] at e3
  injection e3 with e3
  injection e3 with e3 e4
  subst e3 e4
  rw [hb.cell] at hc
  exact cf_cell hc
def keyV (i : Nat) : Value := .string (keyS i)
theorem keyV_map (l : List Nat) : l.map keyV = (l.map keyS).map Value.string := by
  rw [List.map_map]
  rfl
theorem key_ne : ∀ i, (keyS i).toList ≠ []
  | 0 | 1 | 2 | 3 | 4 | 5 | n + 6 => by
    rw [ByteArray.toList_eq]
    simp [keyS]
/-- What a text is: a config, or none. -/
def ParsedOf (o : Option Cf) (w : World) (e : Ending) (w' : World) : Prop :=
  e = .returned (.tuple #[(o.getD zeroC).val, .int .i64 (if o.isSome then 0 else 4)]) ∧ Kept w w'
set_option maxRecDepth 100000 in
set_option maxHeartbeats 16000000 in
theorem parse_any (s : ByteArray) (w : World) (hs : s.size ≤ 100000) : Calls Try.prog 7 #[.string s] w fun e w' => ParsedOf (parseF c0 [] (wordsF s)) w e w' := by
  have hwl : (wordsF s).length ≤ 100001 := by
    have := words_len (s := s) s.size 0 0
    unfold wordsF
    omega
  have HWS := Lib.hid (show ∀ x ∈ wordsF s, x.size ≤ s.size from words_size s.size 0 0)
  have hwd := fun w => words_any s w (by omega)
  obtain ⟨WS, hWS⟩ : ∃ WS, wordsF s = WS := ⟨_, rfl⟩
  rw [hWS] at HWS hwl ⊢
  simp only [hWS] at hwd
  have HWD := Lib.hid hwd
  clear hWS hwd
  obtain ⟨R, hR⟩ : ∃ R, parseF c0 [] WS = R := ⟨_, rfl⟩
  have HR := Lib.hid hR
  rw [hR]
  clear hR
  go_enter Try.func7, Try.ntmps7
  go_wp2_with fail
  have kr := (Kept.refl w).alloc (.cells #[.int .i64 0, .int .i64 0, .int .i64 0, .int .i64 0, .int .i64 0, .bool false, .bool false] 23)
  have br := Blk.new w #[.int .i64 0, .int .i64 0, .int .i64 0, .int .i64 0, .int .i64 0, .bool false, .bool false] 23
  generalize w.alloc (.cells #[.int .i64 0, .int .i64 0, .int .i64 0, .int .i64 0, .int .i64 0, .bool false, .bool false] 23) = w1 at kr br ⊢
  obtain ⟨r, hr⟩ : ∃ r, w.heap.size = r := ⟨_, rfl⟩
  rw [hr] at br ⊢
  refine (default_any _).mono ?_
  rintro e w2 ⟨rfl, k2⟩
  dsimp only [Cf.val]
  go_upto_region 2 with fail
  have kg := (kr.trans k2).alloc (.cells #[.int .i64 2, .int .i64 80, .int .i64 0, .int .i64 0, .int .i64 0, .bool false, .bool false] 23)
  have bg := Blk.new w2 #[.int .i64 2, .int .i64 80, .int .i64 0, .int .i64 0, .int .i64 0, .bool false, .bool false] 23
  have br3 := (br.kept k2).alloc (.cells #[.int .i64 2, .int .i64 80, .int .i64 0, .int .i64 0, .int .i64 0, .bool false, .bool false] 23)
  have hrg := (br.kept k2).lt
  generalize w2.alloc (.cells #[.int .i64 2, .int .i64 80, .int .i64 0, .int .i64 0, .int .i64 0, .bool false, .bool false] 23) = w3 at kg bg br3 ⊢
  obtain ⟨g, hg⟩ : ∃ g, w2.heap.size = g := ⟨_, rfl⟩
  rw [hg] at bg hrg ⊢
  have hg0 : w.heap.size ≤ g := by omega
  clear hg kr k2 br
  go_wp2_with fail
  refine (HWD.out _).mono ?_
  rintro e w4 ⟨VA, VC, rfl, hV, k4⟩
  have k04 := kg.trans k4
  have bg4 : Blk w4 g c0.cells 23 := bg.kept k4
  have br4 := br3.kept k4
  have hgl := bg4.lt
  obtain ⟨n, hn⟩ : ∃ n, WS.length = n := ⟨_, rfl⟩
  rw [hn] at hwl hV ⊢
  have HL := Lib.hid hn
  have hcap := hV.cap
  have hmax := hV.max
  clear hn kg k4 bg br3 HWD
  go_wp2_with fail
  go_loopw [5, 13] (fun v i wr => ∃ (k : Nat) (c : Cf) (seen : List Nat), k ≤ n ∧ i = .int .i64 k ∧ w4.grownBy wr (some g) ∧ Blk wr g c.cells 23 ∧ wr.ownsRow w.heap.size 9 1 v seen.length (seen.map keyV) ∧ (∀ q, v.ownBlock = some q → w4.heap.size ≤ q) ∧ Hid (R = parseF c seen (WS.drop k)) ∧ Hid (∀ j ∈ seen, j < 7) ∧ seen.length ≤ k) (fun _ i _ => n - (intOf i).toNat)
  case atStart => exact ⟨0, c0, [], Nat.zero_le _, rfl, grown_kept (Kept.refl _) _, bg4, ⟨rfl, .inl ⟨rfl, rfl⟩⟩, (fun q h => by simp [Value.ownBlock] at h), HR.out.symm, (by unfold Hid; simp), Nat.le_refl _⟩
  case round =>
    clear HR
    obtain ⟨k, c, seen, hk, rfl, hgr, hbg, hown, hob, hinv, hsn, hsl⟩ := hrel
    have kwr : Kept w wr := Kept.grown k04 hgr (fun q hq => by injection hq with hq; omega)
    have hbr : Blk wr r #[.int .i64 0, .int .i64 0, .int .i64 0, .int .i64 0, .int .i64 0, .bool false, .bool false] 23 := br4.grown hgr (by simp; omega)
    have hVr := grownL_cell hV hgr (sl_ne hV bg4)
    have hszr := hgr.size
    by_cases hlt : k < n
    · obtain ⟨b, o, x, hA, hx, x0⟩ := hVr.one hlt
      have hbl := World.block_lt_of_cell? _ _ x0
      have hxs := HWS.out x (List.mem_of_getElem? hx)
      have hdr : WS.drop k = x :: WS.drop (k + 1) := by
        obtain ⟨h1, h2⟩ := List.getElem?_eq_some_iff.1 hx
        rw [List.drop_eq_getElem_cons h1, h2]
      have hst := hinv.out
      rw [hdr] at hst
      have hset := set_any g c x wr hbg (by omega)
      have hlt2 := fun i m => setF_lt (s := x) (i := i) (n := m)
      obtain ⟨O, hO⟩ : ∃ O, setF x = O := ⟨_, rfl⟩
      rw [hO] at hset hlt2
      have HO := Lib.hid hO
      clear hO hdr hinv hx hVr hV
      subst hA
      cases O with
      | none =>
        have hRn : R = none := by rw [hst, parseF_bad HO.out]
        have HRn := Lib.hid hRn
        have HSET := Lib.hid hset
        clear hRn hst hset hlt2
        go_wp2_with fail
        refine HSET.out.mono ?_
        rintro e w5 ⟨hg5, he⟩
        have he' : e = .returned (.string ⟨#[]⟩) := he
        subst he'
        have k5 : Kept w w5 := Kept.grown kwr hg5 (fun q hq => by injection hq with hq; omega)
        have hbr5 : Blk w5 r #[.int .i64 0, .int .i64 0, .int .i64 0, .int .i64 0, .int .i64 0, .bool false, .bool false] 23 := hbr.grown hg5 (by simp; omega)
        have c5 := hbr5.cell
        have f5 := hbr5.frozen
        have l5 := hbr5.lt
        clear he
        go_wp2_with fail
        exact bodyPost_ret (v := .tuple #[.agg #[.int .i64 0, .int .i64 0, .int .i64 0, .int .i64 0, .int .i64 0, .bool false, .bool false], .int .i64 4]) (by simp [results, Try.results7, go_sem, c5]) rfl ⟨by rw [HRn.out]; rfl, (by repeat (first | (with_reducible exact k5) | (with_reducible refine Kept.setCell ?_ (by show _ ≤ r; omega) _)))⟩
      | some y =>
        obtain ⟨i, m⟩ := y
        obtain ⟨hi7, hm⟩ := hlt2 i m rfl
        have HSET := Lib.hid hset
        have hct := fun w' A' c' (h : Sl w' 1 A' seen.length c' ((seen.map keyS).map Value.string)) => contains_any A' seen.length c' (seen.map keyS) (keyS i) w' h
        have hhas := has_of key_inj hi7 hsn.out
        have hke := key_ne i
        obtain ⟨d, hd⟩ : ∃ d, decide (i ∈ seen) = d := ⟨_, rfl⟩
        rw [hhas, hd] at hct
        have HCT := Lib.hid hct
        have HDD := Lib.hid hd
        clear hset hlt2 hct hhas hd
        go_wp2_with fail
        refine HSET.out.mono ?_
        rintro e w5 ⟨hg5, he, hb5⟩
        subst he
        have k5 : Kept w w5 := Kept.grown kwr hg5 (fun q hq => by injection hq with hq; omega)
        have hbr5 : Blk w5 r #[.int .i64 0, .int .i64 0, .int .i64 0, .int .i64 0, .int .i64 0, .bool false, .bool false] 23 := hbr.grown hg5 (by simp; omega)
        have hg45 := hgr.trans hg5
        have hown5 : w5.ownsRow w.heap.size 9 1 u5 seen.length (seen.map keyV) := own_grown hown hg5 (fun e => by have := hob _ e; omega)
        have HKM := Lib.hid (keyV_map seen)
        obtain ⟨SA, SC, rfl, hS⟩ := Sl.of_own hown5
        rw [HKM.out] at hS
        have hSC := hS.cap
        obtain ⟨K, hK⟩ : ∃ K, keyS i = K := ⟨_, rfl⟩
        have HK := Lib.hid hK
        rw [hK] at HCT hke ⊢
        have e1 : (K.toList == []) = false := by simpa using hke
        have e2 : K.toList.isEmpty = false := by
          cases hz : K.toList with
          | nil => exact absurd hz hke
          | cons _ _ => rfl
        have c5 := hbr5.cell
        have f5 := hbr5.frozen
        have l5 := hbr5.lt
        have h35 := hg5.size
        clear HSET hK hke hown
        cases d with
        | true =>
          have hRn : R = none := by rw [hst, parseF_dup HO.out (by simpa using HDD.out)]
          have HRn := Lib.hid hRn
          clear hRn hst
          go_wp2_with fail
          refine (HCT.out _ _ _ hS).mono ?_
          rintro e w6 ⟨rfl, rfl⟩
          go_wp2_with fail
          exact bodyPost_ret (v := .tuple #[.agg #[.int .i64 0, .int .i64 0, .int .i64 0, .int .i64 0, .int .i64 0, .bool false, .bool false], .int .i64 4]) (by simp [results, Try.results7, go_sem, c5]) rfl ⟨by rw [HRn.out]; rfl, (by repeat (first | (with_reducible exact k5) | (with_reducible refine Kept.setCell ?_ (by show _ ≤ r; omega) _)))⟩
        | false =>
          have hRn : R = parseF (upd c i m) (seen ++ [i]) (WS.drop (k + 1)) := by rw [hst, parseF_new HO.out (by simpa using HDD.out)]
          have HRn := Lib.hid hRn
          clear hRn hst
          go_wp2_with fail
          refine (HCT.out _ _ _ hS).mono ?_
          rintro e w6 ⟨rfl, rfl⟩
          clear c5 f5 HCT
          go_wp2_with (at_builtin; refine wpList_push w (by rfl) _ _ (by rfl) appT_str (by rfl) hown5 k5 (by rfl) (by exact ⟨by rfl, by rfl, by rfl, by omega⟩) ?_; intro v7 w7 hown7 hk7 hgr7 hob7)
          have hg7 := World.grownBy.andThen (hg45.trans (World.grownBy_alloc _ _ _)) hgr7 (fun q hq => .inl (hob q hq))
          have hb7 : Blk w7 g (upd c i m).cells 23 := (hb5.alloc _).grown hgr7 (fun e => by have := hob _ e.symm; omega)
          have hob8 : ∀ q, v7.ownBlock = some q → w4.heap.size ≤ q := by
            intro q hq
            rcases hob7 with e | e
            · exact hob q (by rw [← e]; exact hq)
            · rw [e] at hq
              injection hq with hq
              omega
          clear hgr7 hob7
          go_roundw
          case rel =>
            refine ⟨k + 1, upd c i m, seen ++ [i], hlt, by go_num, hg7, hb7, ?_, hob8, HRn.out, ?_, by rw [List.length_append, List.length_singleton]; omega⟩
            · rw [List.length_append, List.map_append]
              have := hown7
              rw [← HK.out] at this
              exact this
            · unfold Hid
              intro j hj
              rcases List.mem_append.1 hj with hj | hj
              · exact hsn.out j hj
              · rw [List.mem_singleton.1 hj]
                exact hi7
          case measure =>
            simp [intOf]
            omega
    · obtain rfl : k = n := by omega
      have hRn : R = some (clampF c) := by
        rw [hinv.out, List.drop_eq_nil_of_le (by have := HL.out; omega)]
        rfl
      have HRn := Lib.hid hRn
      have hc := clamp_any c
      obtain ⟨c', hc'⟩ : ∃ c', clampF c = c' := ⟨_, rfl⟩
      rw [hc'] at HRn hc
      have HC := Lib.hid hc
      have cg : ∀ i, wr.cell? ⟨g, i, none⟩ = (#[.int .i64 c.i, .int .i64 c.d, .int .i64 c.q, .int .i64 c.e, .int .i64 c.l, .bool c.t, .bool c.r] : Array Value)[i]? := hbg.cell
      have lg := hbg.lt
      clear hRn hc hc' hVr hV hinv
      go_wp2_with fail
      refine (HC.out _).mono ?_
      rintro e w5 ⟨rfl, k5'⟩
      have k5 : Kept w w5 := kwr.trans k5'
      have hbr5 : Blk w5 r #[.int .i64 0, .int .i64 0, .int .i64 0, .int .i64 0, .int .i64 0, .bool false, .bool false] 23 := hbr.kept k5'
      have c5 := hbr5.cell
      have f5 := hbr5.frozen
      have l5 := hbr5.lt
      clear cg
      dsimp only [Cf.val]
      go_wp2_with fail
      exact bodyPost_ret (v := .tuple #[c'.val, .int .i64 0]) (by simp [results, Try.results7, go_sem, c5, Cf.val]) rfl ⟨by rw [HRn.out]; rfl, (by repeat (first | (with_reducible exact k5) | (with_reducible refine Kept.setCell ?_ (by show _ ≤ r; omega) _)))⟩
end Go.Proofs.Ytmicmmbdkmmnoaa
