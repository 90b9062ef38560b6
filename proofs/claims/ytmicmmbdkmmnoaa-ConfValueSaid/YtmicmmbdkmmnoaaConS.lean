/- The document's Parse of a config: walked (printed by wip/gen/gen_cons.py). -/
import Derived.Test.YtmicmmbdkmmnoaaConR
namespace Go.Proofs.Ytmicmmbdkmmnoaa
open Go.RowKit
attribute [local go_sem ↓] Go.wp_at_zero Go.wp_at_succ

def nameV (i : Nat) : Value := .string (nameR i)
theorem nameV_map (l : List Nat) : l.map nameV = (l.map nameR).map Value.string := by
  rw [List.map_map]
  rfl
def RParsedOf (o : Option Cf) (w : World) (e : Ending) (w' : World) : Prop :=
  e = .returned (.tuple #[(o.getD zeroC).val, .bool o.isSome]) ∧ Kept w w'
/-- A word whose key was there: no config. -/
theorem dup_none {x : ByteArray} {seen : List Nat} (hs : ∀ j ∈ seen, j < 7) (h : keyR x ∈ seen.map nameR) (c : Cf) (ws : List ByteArray) : parseF c seen (x :: ws) = none := by
  obtain ⟨j, hj, he⟩ := List.mem_map.1 h
  have hj7 := hs j hj
  cases word_of x with
  | field i n hi hn h1 h2 _ =>
    have e := name_inj j hj7 i (by omega) (he.trans h2)
    subst e
    exact parseF_dup h1 hj
  | bad _ _ h1 _ _ => exact parseF_bad h1
  | flag i hi h1 h2 _ _ =>
    have e := name_inj j hj7 i (by omega) (he.trans h2)
    subst e
    exact parseF_dup h1 hj
  | other h1 _ _ _ => exact parseF_bad h1
set_option maxRecDepth 100000 in
set_option maxHeartbeats 32000000 in
theorem rparse_any (s : ByteArray) (w : World) (hs : s.size ≤ 100000) : Calls Try.prog 8 #[.string s] w fun e w' => RParsedOf (parseF c0 [] (wordsF s)) w e w' := by
  have hwl : (wordsF s).length ≤ 100001 := by
    have := words_len (s := s) s.size 0 0
    unfold wordsF
    omega
  have HWS := Lib.hid (show ∀ x ∈ wordsF s, x.size ≤ s.size from words_size s.size 0 0)
  have hwd := fun w => rwords_any s w (by omega)
  obtain ⟨WS, hWS⟩ : ∃ WS, wordsF s = WS := ⟨_, rfl⟩
  rw [hWS] at HWS hwl ⊢
  simp only [hWS] at hwd
  have HWD := Lib.hid hwd
  clear hWS hwd
  obtain ⟨R, hR⟩ : ∃ R, parseF c0 [] WS = R := ⟨_, rfl⟩
  have HR := Lib.hid hR
  rw [hR]
  clear hR
  go_enter Try.func8, Try.ntmps8
  go_upto_region 2 with fail
  have kr := (Kept.refl w).alloc (.cells #[.int .i64 0, .int .i64 0, .int .i64 0, .int .i64 0, .int .i64 0, .bool false, .bool false] 27)
  have br := Blk.new w #[.int .i64 0, .int .i64 0, .int .i64 0, .int .i64 0, .int .i64 0, .bool false, .bool false] 27
  have hs1 : (w.alloc (.cells #[.int .i64 0, .int .i64 0, .int .i64 0, .int .i64 0, .int .i64 0, .bool false, .bool false] 27)).heap.size = w.heap.size + 1 := by simp
  generalize w.alloc (.cells #[.int .i64 0, .int .i64 0, .int .i64 0, .int .i64 0, .int .i64 0, .bool false, .bool false] 27) = w1 at kr br hs1 ⊢
  obtain ⟨r, hr⟩ : ∃ r, w.heap.size = r := ⟨_, rfl⟩
  rw [hr] at br hs1 ⊢
  have kg := kr.alloc (.cells #[.int .i64 2, .int .i64 80, .int .i64 0, .int .i64 0, .int .i64 0, .bool false, .bool false] 27)
  have bg := Blk.new w1 #[.int .i64 2, .int .i64 80, .int .i64 0, .int .i64 0, .int .i64 0, .bool false, .bool false] 27
  have br3 := br.alloc (.cells #[.int .i64 2, .int .i64 80, .int .i64 0, .int .i64 0, .int .i64 0, .bool false, .bool false] 27)
  have hrg := br.lt
  generalize w1.alloc (.cells #[.int .i64 2, .int .i64 80, .int .i64 0, .int .i64 0, .int .i64 0, .bool false, .bool false] 27) = w3 at kg bg br3 ⊢
  rw [hs1] at bg hrg
  obtain ⟨g, hg⟩ : ∃ g, r + 1 = g := ⟨_, rfl⟩
  rw [hg] at bg hrg ⊢
  have hg0 : w.heap.size ≤ g := by omega
  clear hg kr br hs1
  go_wp2_with fail
  refine (HWD.out _).mono ?_
  rintro e w4 ⟨VA, VC, rfl, hV, k4⟩
  have k04 := kg.trans k4
  have bg4 : Blk w4 g c0.cells 27 := bg.kept k4
  have br4 := br3.kept k4
  have hgl := bg4.lt
  obtain ⟨n, hn⟩ : ∃ n, WS.length = n := ⟨_, rfl⟩
  rw [hn] at hwl hV ⊢
  have HL := Lib.hid hn
  have hcap := hV.cap
  have hmax := hV.max
  clear hn kg k4 bg br3 HWD
  go_wp2_with fail
  go_loopw [5, 17] (fun v i wr => ∃ (k : Nat) (c : Cf) (seen : List Nat), k ≤ n ∧ i = .int .i64 k ∧ w4.grownBy wr (some g) ∧ Blk wr g c.cells 27 ∧ wr.ownsRow w.heap.size 9 1 v seen.length (seen.map nameV) ∧ (∀ q, v.ownBlock = some q → w4.heap.size ≤ q) ∧ Hid (R = parseF c seen (WS.drop k)) ∧ Hid (∀ j ∈ seen, j < 7) ∧ seen.length ≤ k) (fun _ i _ => n - (intOf i).toNat)
  case atStart => exact ⟨0, c0, [], Nat.zero_le _, rfl, grown_kept (Kept.refl _) _, bg4, ⟨rfl, .inl ⟨rfl, rfl⟩⟩, (fun q h => by simp [Value.ownBlock] at h), HR.out.symm, (by unfold Hid; simp), Nat.le_refl _⟩
  case round =>
    clear HR
    obtain ⟨k, c, seen, hk, rfl, hgr, hbg, hown, hob, hinv, hsn, hsl⟩ := hrel
    have kwr : Kept w wr := Kept.grown k04 hgr (fun q hq => by injection hq with hq; omega)
    have hbr : Blk wr r #[.int .i64 0, .int .i64 0, .int .i64 0, .int .i64 0, .int .i64 0, .bool false, .bool false] 27 := br4.grown hgr (by simp; omega)
    have hVr := grownL_cell hV hgr (sl_ne hV bg4)
    have hszr := hgr.size
    by_cases hlt : k < n
    · obtain ⟨b, o, x, hA, hx, x0⟩ := hVr.one hlt
      have hbl := World.block_lt_of_cell? _ _ x0
      have hxs := HWS.out x (List.mem_of_getElem? hx)
      have hdr : WS.drop k = x :: WS.drop (k + 1) := by
        obtain ⟨h1, h2⟩ := List.getElem?_eq_some_iff.1 hx
        rw [List.drop_eq_getElem_cons h1, h2]
      have hst := hinv.out
      rw [hdr] at hst
      have hcut := rcut_any x wr (by omega)
      have HWO := Lib.hid (word_of x)
      have HDU := Lib.hid (show keyR x ∈ seen.map nameR → parseF c seen (x :: WS.drop (k + 1)) = none from fun h => dup_none hsn.out h c (WS.drop (k + 1)))
      obtain ⟨K, hK⟩ : ∃ K, keyR x = K := ⟨_, rfl⟩
      obtain ⟨V, hV'⟩ : ∃ V, valI (cnumR x) = V := ⟨_, rfl⟩
      rw [hK] at hcut HDU
      rw [hV'] at hcut
      have HCUT := Lib.hid hcut
      have HK := Lib.hid hK
      have HV := Lib.hid hV'
      have HST := Lib.hid hst
      clear hcut hK hV' hst hdr hinv hx hVr hV
      subst hA
      go_wp2_with fail
      refine HCUT.out.mono ?_
      rintro e w5 ⟨rfl, k5'⟩
      have k5 : Kept w w5 := kwr.trans k5'
      have hbr5 : Blk w5 r #[.int .i64 0, .int .i64 0, .int .i64 0, .int .i64 0, .int .i64 0, .bool false, .bool false] 27 := hbr.kept k5'
      have hbg5 := hbg.kept k5'
      have hg5 := hgr.trans (grown_kept k5' _)
      have hown5 := own_kept hown k5'
      have h5s := k5'.size
      have HNM := Lib.hid (nameV_map seen)
      obtain ⟨SA, SC, rfl, hS⟩ := Sl.of_own hown5
      rw [HNM.out] at hS
      have hSC := hS.cap
      have hSM := hS.max
      clear hown k5' hbr hbg hgr kwr HCUT x0 hbl
      obtain ⟨sl, hsle⟩ : ∃ sl, seen.length = sl := ⟨_, rfl⟩
      rw [hsle] at hown5 hS hSC hsl hob ⊢
      have HSL := Lib.hid hsle
      clear hsle
      go_wp2_with fail
      go_loopw [28] (fun j wx => ∃ q : Nat, q ≤ sl ∧ j = .int .i64 q ∧ wx = w5 ∧ Hid (K ∉ (seen.map nameR).take q)) (fun j _ => sl - (intOf j).toNat)
      case atStart => exact ⟨0, Nat.zero_le _, rfl, rfl, by unfold Hid; simp⟩
      case round =>
        obtain ⟨q, hq, rfl, rfl, hni⟩ := hrel
        by_cases hql : q < sl
        · obtain ⟨b', o', y, hA', hy, y0⟩ := hS.one hql
          subst hA'
          have HY := Lib.hid hy
          obtain ⟨t, ht⟩ : ∃ t, (y.toList == K.toList) = t := ⟨_, rfl⟩
          cases t
          · have hyK : y ≠ K := by
              intro e
              rw [e] at ht
              simp at ht
            have HYK := Lib.hid hyK
            clear hyK hy
            go_wp2_with fail
            go_roundw
            case rel =>
              refine ⟨q + 1, hql, by go_num, by trivial, ?_⟩
              unfold Hid
              rw [List.take_add_one, HY.out]
              intro e
              rcases List.mem_append.1 e with e | e
              · exact hni.out e
              · simp at e
                exact HYK.out e.symm
            case measure =>
              simp [intOf]
              omega
          · have hyK : y = K := cstr_eq (beq_iff_eq.1 ht)
            have hRn : R = none := by
              rw [HST.out]
              apply HDU.out
              rw [← hyK]
              exact List.mem_of_getElem? hy
            have HRn := Lib.hid hRn
            have c5 := hbr5.cell
            have f5 := hbr5.frozen
            have l5 := hbr5.lt
            clear hyK hRn hy
            go_wp2_with fail
            exact bodyPost_ret (v := .tuple #[.agg #[.int .i64 0, .int .i64 0, .int .i64 0, .int .i64 0, .int .i64 0, .bool false, .bool false], .bool false]) (by simp [results, Try.results8, go_sem, c5]) rfl ⟨by rw [HRn.out]; rfl, (by repeat (first | (with_reducible exact k5) | (with_reducible refine Kept.setCell ?_ (by show _ ≤ r; omega) _)))⟩
        · obtain rfl : q = sl := by omega
          have HNI : Hid (K ∉ seen.map nameR) := by
            have := hni.out
            rwa [List.take_of_length_le (by rw [List.length_map, HSL.out]; omega)] at this
          clear hni hS
          go_upto_region 14 with (at_builtin; refine wpList_push w (by rfl) _ _ (by rfl) appT_str (by rfl) hown5 k5 (by rfl) (by exact ⟨by rfl, by rfl, by rfl, by omega⟩) ?_; intro v7 w7 hown7 hk7 hgr7 hob7)
          have hg7 := World.grownBy.andThen (hg5.trans (World.grownBy_alloc _ _ _)) hgr7 (fun q hq => .inl (hob q hq))
          have hb7 : Blk w7 g c.cells 27 := (hbg5.alloc _).grown hgr7 (fun e => by have := hob _ e.symm; omega)
          have hbr7 : Blk w7 r #[.int .i64 0, .int .i64 0, .int .i64 0, .int .i64 0, .int .i64 0, .bool false, .bool false] 27 := (hbr5.alloc _).grown hgr7 (fun e => by have := hob _ e.symm; omega)
          have hob8 : ∀ q, v7.ownBlock = some q → w4.heap.size ≤ q := by
            intro q hq
            rcases hob7 with e | e
            · exact hob q (by rw [← e]; exact hq)
            · rw [e] at hq
              injection hq with hq
              omega
          clear hgr7 hob7 hob hown5 hbr5 hbg5 hg5 k5
          have l7 := hb7.lt
          have lr7 := hbr7.lt
          rcases HWO.out with ⟨i, m, hi, hm, h1, h2, h3⟩ | ⟨i, hi, h1, h2, h3⟩ | ⟨i, hi, h1, h2, h3, h4⟩ | ⟨h1, h2, h3, h4⟩
          · have hv : V = (m : Int) := by rw [← HV.out, h3]; rfl
            have hv0 : ¬ V < 0 := by omega
            have hKe0 : K = nameR i := HK.out.symm.trans h2
            clear h2 h3 HWO HDU HK HV
            rcases (show i = 0 ∨ i = 1 ∨ i = 2 ∨ i = 3 ∨ i = 4 by omega) with rfl | rfl | rfl | rfl | rfl
            · have hKe : K = nameR 0 := hKe0
              clear hKe0
              have f0 : (K.toList == [105, 110, 100, 101, 110, 116]) = true := by rw [hKe, ByteArray.toList_eq]; rfl
              have f1 : (K.toList == [119, 105, 100, 116, 104]) = false := by rw [hKe, ByteArray.toList_eq]; rfl
              have f2 : (K.toList == [113, 117, 111, 116, 101]) = false := by rw [hKe, ByteArray.toList_eq]; rfl
              have f3 : (K.toList == [101, 109, 112, 116, 121]) = false := by rw [hKe, ByteArray.toList_eq]; rfl
              have f4 : (K.toList == [108, 105, 110, 101]) = false := by rw [hKe, ByteArray.toList_eq]; rfl
              have f5 : (K.toList == [116, 97, 98, 115]) = false := by rw [hKe, ByteArray.toList_eq]; rfl
              subst hv
              have hni : ¬ 0 ∈ seen := fun h => HNI.out (by rw [hKe]; exact List.mem_map.2 ⟨0, h, rfl⟩)
              have hRn : R = parseF (upd c 0 m) (seen ++ [0]) (WS.drop (k + 1)) := by rw [HST.out, parseF_new h1 hni]
              have HRn := Lib.hid hRn
              have cg : ∀ i, w7.cell? ⟨g, i, none⟩ = (#[.int .i64 c.i, .int .i64 c.d, .int .i64 c.q, .int .i64 c.e, .int .i64 c.l, .bool c.t, .bool c.r] : Array Value)[i]? := hb7.cell
              have fg := hb7.frozen
              have HKE := Lib.hid hKe
              clear hRn hni hKe h1
              go_wp2_with fail
              go_roundw
              case rel =>
                refine ⟨k + 1, upd c 0 m, seen ++ [0], hlt, by go_num, hg7.trans (grown_setCell w7 ⟨g, 0, none⟩ _), hb7.set 0 _, ?_, hob8, HRn.out, ?_, by rw [List.length_append, List.length_singleton, HSL.out]; omega⟩
                · rw [List.length_append, List.map_append, HSL.out]
                  refine own_grown ?_ (grown_setCell w7 ⟨g, 0, none⟩ _) (fun e => by have := hob8 g e; omega)
                  have := hown7
                  rw [HKE.out] at this
                  exact this
                · unfold Hid
                  intro j hj
                  rcases List.mem_append.1 hj with hj | hj
                  · exact hsn.out j hj
                  · rw [List.mem_singleton.1 hj]
                    omega
              case measure =>
                simp [intOf]
                omega
            · have hKe : K = nameR 1 := hKe0
              clear hKe0
              have f0 : (K.toList == [105, 110, 100, 101, 110, 116]) = false := by rw [hKe, ByteArray.toList_eq]; rfl
              have f1 : (K.toList == [119, 105, 100, 116, 104]) = true := by rw [hKe, ByteArray.toList_eq]; rfl
              have f2 : (K.toList == [113, 117, 111, 116, 101]) = false := by rw [hKe, ByteArray.toList_eq]; rfl
              have f3 : (K.toList == [101, 109, 112, 116, 121]) = false := by rw [hKe, ByteArray.toList_eq]; rfl
              have f4 : (K.toList == [108, 105, 110, 101]) = false := by rw [hKe, ByteArray.toList_eq]; rfl
              have f5 : (K.toList == [116, 97, 98, 115]) = false := by rw [hKe, ByteArray.toList_eq]; rfl
              subst hv
              have hni : ¬ 1 ∈ seen := fun h => HNI.out (by rw [hKe]; exact List.mem_map.2 ⟨1, h, rfl⟩)
              have hRn : R = parseF (upd c 1 m) (seen ++ [1]) (WS.drop (k + 1)) := by rw [HST.out, parseF_new h1 hni]
              have HRn := Lib.hid hRn
              have cg : ∀ i, w7.cell? ⟨g, i, none⟩ = (#[.int .i64 c.i, .int .i64 c.d, .int .i64 c.q, .int .i64 c.e, .int .i64 c.l, .bool c.t, .bool c.r] : Array Value)[i]? := hb7.cell
              have fg := hb7.frozen
              have HKE := Lib.hid hKe
              clear hRn hni hKe h1
              go_wp2_with fail
              go_roundw
              case rel =>
                refine ⟨k + 1, upd c 1 m, seen ++ [1], hlt, by go_num, hg7.trans (grown_setCell w7 ⟨g, 1, none⟩ _), hb7.set 1 _, ?_, hob8, HRn.out, ?_, by rw [List.length_append, List.length_singleton, HSL.out]; omega⟩
                · rw [List.length_append, List.map_append, HSL.out]
                  refine own_grown ?_ (grown_setCell w7 ⟨g, 1, none⟩ _) (fun e => by have := hob8 g e; omega)
                  have := hown7
                  rw [HKE.out] at this
                  exact this
                · unfold Hid
                  intro j hj
                  rcases List.mem_append.1 hj with hj | hj
                  · exact hsn.out j hj
                  · rw [List.mem_singleton.1 hj]
                    omega
              case measure =>
                simp [intOf]
                omega
            · have hKe : K = nameR 2 := hKe0
              clear hKe0
              have f0 : (K.toList == [105, 110, 100, 101, 110, 116]) = false := by rw [hKe, ByteArray.toList_eq]; rfl
              have f1 : (K.toList == [119, 105, 100, 116, 104]) = false := by rw [hKe, ByteArray.toList_eq]; rfl
              have f2 : (K.toList == [113, 117, 111, 116, 101]) = true := by rw [hKe, ByteArray.toList_eq]; rfl
              have f3 : (K.toList == [101, 109, 112, 116, 121]) = false := by rw [hKe, ByteArray.toList_eq]; rfl
              have f4 : (K.toList == [108, 105, 110, 101]) = false := by rw [hKe, ByteArray.toList_eq]; rfl
              have f5 : (K.toList == [116, 97, 98, 115]) = false := by rw [hKe, ByteArray.toList_eq]; rfl
              subst hv
              have hni : ¬ 2 ∈ seen := fun h => HNI.out (by rw [hKe]; exact List.mem_map.2 ⟨2, h, rfl⟩)
              have hRn : R = parseF (upd c 2 m) (seen ++ [2]) (WS.drop (k + 1)) := by rw [HST.out, parseF_new h1 hni]
              have HRn := Lib.hid hRn
              have cg : ∀ i, w7.cell? ⟨g, i, none⟩ = (#[.int .i64 c.i, .int .i64 c.d, .int .i64 c.q, .int .i64 c.e, .int .i64 c.l, .bool c.t, .bool c.r] : Array Value)[i]? := hb7.cell
              have fg := hb7.frozen
              have HKE := Lib.hid hKe
              clear hRn hni hKe h1
              go_wp2_with fail
              go_roundw
              case rel =>
                refine ⟨k + 1, upd c 2 m, seen ++ [2], hlt, by go_num, hg7.trans (grown_setCell w7 ⟨g, 2, none⟩ _), hb7.set 2 _, ?_, hob8, HRn.out, ?_, by rw [List.length_append, List.length_singleton, HSL.out]; omega⟩
                · rw [List.length_append, List.map_append, HSL.out]
                  refine own_grown ?_ (grown_setCell w7 ⟨g, 2, none⟩ _) (fun e => by have := hob8 g e; omega)
                  have := hown7
                  rw [HKE.out] at this
                  exact this
                · unfold Hid
                  intro j hj
                  rcases List.mem_append.1 hj with hj | hj
                  · exact hsn.out j hj
                  · rw [List.mem_singleton.1 hj]
                    omega
              case measure =>
                simp [intOf]
                omega
            · have hKe : K = nameR 3 := hKe0
              clear hKe0
              have f0 : (K.toList == [105, 110, 100, 101, 110, 116]) = false := by rw [hKe, ByteArray.toList_eq]; rfl
              have f1 : (K.toList == [119, 105, 100, 116, 104]) = false := by rw [hKe, ByteArray.toList_eq]; rfl
              have f2 : (K.toList == [113, 117, 111, 116, 101]) = false := by rw [hKe, ByteArray.toList_eq]; rfl
              have f3 : (K.toList == [101, 109, 112, 116, 121]) = true := by rw [hKe, ByteArray.toList_eq]; rfl
              have f4 : (K.toList == [108, 105, 110, 101]) = false := by rw [hKe, ByteArray.toList_eq]; rfl
              have f5 : (K.toList == [116, 97, 98, 115]) = false := by rw [hKe, ByteArray.toList_eq]; rfl
              subst hv
              have hni : ¬ 3 ∈ seen := fun h => HNI.out (by rw [hKe]; exact List.mem_map.2 ⟨3, h, rfl⟩)
              have hRn : R = parseF (upd c 3 m) (seen ++ [3]) (WS.drop (k + 1)) := by rw [HST.out, parseF_new h1 hni]
              have HRn := Lib.hid hRn
              have cg : ∀ i, w7.cell? ⟨g, i, none⟩ = (#[.int .i64 c.i, .int .i64 c.d, .int .i64 c.q, .int .i64 c.e, .int .i64 c.l, .bool c.t, .bool c.r] : Array Value)[i]? := hb7.cell
              have fg := hb7.frozen
              have HKE := Lib.hid hKe
              clear hRn hni hKe h1
              go_wp2_with fail
              go_roundw
              case rel =>
                refine ⟨k + 1, upd c 3 m, seen ++ [3], hlt, by go_num, hg7.trans (grown_setCell w7 ⟨g, 3, none⟩ _), hb7.set 3 _, ?_, hob8, HRn.out, ?_, by rw [List.length_append, List.length_singleton, HSL.out]; omega⟩
                · rw [List.length_append, List.map_append, HSL.out]
                  refine own_grown ?_ (grown_setCell w7 ⟨g, 3, none⟩ _) (fun e => by have := hob8 g e; omega)
                  have := hown7
                  rw [HKE.out] at this
                  exact this
                · unfold Hid
                  intro j hj
                  rcases List.mem_append.1 hj with hj | hj
                  · exact hsn.out j hj
                  · rw [List.mem_singleton.1 hj]
                    omega
              case measure =>
                simp [intOf]
                omega
            · have hKe : K = nameR 4 := hKe0
              clear hKe0
              have f0 : (K.toList == [105, 110, 100, 101, 110, 116]) = false := by rw [hKe, ByteArray.toList_eq]; rfl
              have f1 : (K.toList == [119, 105, 100, 116, 104]) = false := by rw [hKe, ByteArray.toList_eq]; rfl
              have f2 : (K.toList == [113, 117, 111, 116, 101]) = false := by rw [hKe, ByteArray.toList_eq]; rfl
              have f3 : (K.toList == [101, 109, 112, 116, 121]) = false := by rw [hKe, ByteArray.toList_eq]; rfl
              have f4 : (K.toList == [108, 105, 110, 101]) = true := by rw [hKe, ByteArray.toList_eq]; rfl
              have f5 : (K.toList == [116, 97, 98, 115]) = false := by rw [hKe, ByteArray.toList_eq]; rfl
              subst hv
              have hni : ¬ 4 ∈ seen := fun h => HNI.out (by rw [hKe]; exact List.mem_map.2 ⟨4, h, rfl⟩)
              have hRn : R = parseF (upd c 4 m) (seen ++ [4]) (WS.drop (k + 1)) := by rw [HST.out, parseF_new h1 hni]
              have HRn := Lib.hid hRn
              have cg : ∀ i, w7.cell? ⟨g, i, none⟩ = (#[.int .i64 c.i, .int .i64 c.d, .int .i64 c.q, .int .i64 c.e, .int .i64 c.l, .bool c.t, .bool c.r] : Array Value)[i]? := hb7.cell
              have fg := hb7.frozen
              have HKE := Lib.hid hKe
              clear hRn hni hKe h1
              go_wp2_with fail
              go_roundw
              case rel =>
                refine ⟨k + 1, upd c 4 m, seen ++ [4], hlt, by go_num, hg7.trans (grown_setCell w7 ⟨g, 4, none⟩ _), hb7.set 4 _, ?_, hob8, HRn.out, ?_, by rw [List.length_append, List.length_singleton, HSL.out]; omega⟩
                · rw [List.length_append, List.map_append, HSL.out]
                  refine own_grown ?_ (grown_setCell w7 ⟨g, 4, none⟩ _) (fun e => by have := hob8 g e; omega)
                  have := hown7
                  rw [HKE.out] at this
                  exact this
                · unfold Hid
                  intro j hj
                  rcases List.mem_append.1 hj with hj | hj
                  · exact hsn.out j hj
                  · rw [List.mem_singleton.1 hj]
                    omega
              case measure =>
                simp [intOf]
                omega
          · have hv : V = -1 := by rw [← HV.out, h3]; rfl
            have hv0 : V < 0 := by omega
            have hKe0 : K = nameR i := HK.out.symm.trans h2
            have hRn : R = none := by rw [HST.out, parseF_bad h1]
            clear h1 h2 h3 HWO HDU HK HV HST
            rcases (show i = 0 ∨ i = 1 ∨ i = 2 ∨ i = 3 ∨ i = 4 by omega) with rfl | rfl | rfl | rfl | rfl
            · have hKe : K = nameR 0 := hKe0
              have f0 : (K.toList == [105, 110, 100, 101, 110, 116]) = true := by rw [hKe, ByteArray.toList_eq]; rfl
              have f1 : (K.toList == [119, 105, 100, 116, 104]) = false := by rw [hKe, ByteArray.toList_eq]; rfl
              have f2 : (K.toList == [113, 117, 111, 116, 101]) = false := by rw [hKe, ByteArray.toList_eq]; rfl
              have f3 : (K.toList == [101, 109, 112, 116, 121]) = false := by rw [hKe, ByteArray.toList_eq]; rfl
              have f4 : (K.toList == [108, 105, 110, 101]) = false := by rw [hKe, ByteArray.toList_eq]; rfl
              have f5 : (K.toList == [116, 97, 98, 115]) = false := by rw [hKe, ByteArray.toList_eq]; rfl
              clear hKe hKe0
              have HRn := Lib.hid hRn
              have c7 := hbr7.cell
              have fr7 := hbr7.frozen
              clear hRn
              go_wp2_with fail
              exact bodyPost_ret (v := .tuple #[.agg #[.int .i64 0, .int .i64 0, .int .i64 0, .int .i64 0, .int .i64 0, .bool false, .bool false], .bool false]) (by simp [results, Try.results8, go_sem, c7]) rfl ⟨by rw [HRn.out]; rfl, (by repeat (first | (with_reducible exact hk7) | (with_reducible refine Kept.setCell ?_ (by show _ ≤ r; omega) _)))⟩
            · have hKe : K = nameR 1 := hKe0
              have f0 : (K.toList == [105, 110, 100, 101, 110, 116]) = false := by rw [hKe, ByteArray.toList_eq]; rfl
              have f1 : (K.toList == [119, 105, 100, 116, 104]) = true := by rw [hKe, ByteArray.toList_eq]; rfl
              have f2 : (K.toList == [113, 117, 111, 116, 101]) = false := by rw [hKe, ByteArray.toList_eq]; rfl
              have f3 : (K.toList == [101, 109, 112, 116, 121]) = false := by rw [hKe, ByteArray.toList_eq]; rfl
              have f4 : (K.toList == [108, 105, 110, 101]) = false := by rw [hKe, ByteArray.toList_eq]; rfl
              have f5 : (K.toList == [116, 97, 98, 115]) = false := by rw [hKe, ByteArray.toList_eq]; rfl
              clear hKe hKe0
              have HRn := Lib.hid hRn
              have c7 := hbr7.cell
              have fr7 := hbr7.frozen
              clear hRn
              go_wp2_with fail
              exact bodyPost_ret (v := .tuple #[.agg #[.int .i64 0, .int .i64 0, .int .i64 0, .int .i64 0, .int .i64 0, .bool false, .bool false], .bool false]) (by simp [results, Try.results8, go_sem, c7]) rfl ⟨by rw [HRn.out]; rfl, (by repeat (first | (with_reducible exact hk7) | (with_reducible refine Kept.setCell ?_ (by show _ ≤ r; omega) _)))⟩
            · have hKe : K = nameR 2 := hKe0
              have f0 : (K.toList == [105, 110, 100, 101, 110, 116]) = false := by rw [hKe, ByteArray.toList_eq]; rfl
              have f1 : (K.toList == [119, 105, 100, 116, 104]) = false := by rw [hKe, ByteArray.toList_eq]; rfl
              have f2 : (K.toList == [113, 117, 111, 116, 101]) = true := by rw [hKe, ByteArray.toList_eq]; rfl
              have f3 : (K.toList == [101, 109, 112, 116, 121]) = false := by rw [hKe, ByteArray.toList_eq]; rfl
              have f4 : (K.toList == [108, 105, 110, 101]) = false := by rw [hKe, ByteArray.toList_eq]; rfl
              have f5 : (K.toList == [116, 97, 98, 115]) = false := by rw [hKe, ByteArray.toList_eq]; rfl
              clear hKe hKe0
              have HRn := Lib.hid hRn
              have c7 := hbr7.cell
              have fr7 := hbr7.frozen
              clear hRn
              go_wp2_with fail
              exact bodyPost_ret (v := .tuple #[.agg #[.int .i64 0, .int .i64 0, .int .i64 0, .int .i64 0, .int .i64 0, .bool false, .bool false], .bool false]) (by simp [results, Try.results8, go_sem, c7]) rfl ⟨by rw [HRn.out]; rfl, (by repeat (first | (with_reducible exact hk7) | (with_reducible refine Kept.setCell ?_ (by show _ ≤ r; omega) _)))⟩
            · have hKe : K = nameR 3 := hKe0
              have f0 : (K.toList == [105, 110, 100, 101, 110, 116]) = false := by rw [hKe, ByteArray.toList_eq]; rfl
              have f1 : (K.toList == [119, 105, 100, 116, 104]) = false := by rw [hKe, ByteArray.toList_eq]; rfl
              have f2 : (K.toList == [113, 117, 111, 116, 101]) = false := by rw [hKe, ByteArray.toList_eq]; rfl
              have f3 : (K.toList == [101, 109, 112, 116, 121]) = true := by rw [hKe, ByteArray.toList_eq]; rfl
              have f4 : (K.toList == [108, 105, 110, 101]) = false := by rw [hKe, ByteArray.toList_eq]; rfl
              have f5 : (K.toList == [116, 97, 98, 115]) = false := by rw [hKe, ByteArray.toList_eq]; rfl
              clear hKe hKe0
              have HRn := Lib.hid hRn
              have c7 := hbr7.cell
              have fr7 := hbr7.frozen
              clear hRn
              go_wp2_with fail
              exact bodyPost_ret (v := .tuple #[.agg #[.int .i64 0, .int .i64 0, .int .i64 0, .int .i64 0, .int .i64 0, .bool false, .bool false], .bool false]) (by simp [results, Try.results8, go_sem, c7]) rfl ⟨by rw [HRn.out]; rfl, (by repeat (first | (with_reducible exact hk7) | (with_reducible refine Kept.setCell ?_ (by show _ ≤ r; omega) _)))⟩
            · have hKe : K = nameR 4 := hKe0
              have f0 : (K.toList == [105, 110, 100, 101, 110, 116]) = false := by rw [hKe, ByteArray.toList_eq]; rfl
              have f1 : (K.toList == [119, 105, 100, 116, 104]) = false := by rw [hKe, ByteArray.toList_eq]; rfl
              have f2 : (K.toList == [113, 117, 111, 116, 101]) = false := by rw [hKe, ByteArray.toList_eq]; rfl
              have f3 : (K.toList == [101, 109, 112, 116, 121]) = false := by rw [hKe, ByteArray.toList_eq]; rfl
              have f4 : (K.toList == [108, 105, 110, 101]) = true := by rw [hKe, ByteArray.toList_eq]; rfl
              have f5 : (K.toList == [116, 97, 98, 115]) = false := by rw [hKe, ByteArray.toList_eq]; rfl
              clear hKe hKe0
              have HRn := Lib.hid hRn
              have c7 := hbr7.cell
              have fr7 := hbr7.frozen
              clear hRn
              go_wp2_with fail
              exact bodyPost_ret (v := .tuple #[.agg #[.int .i64 0, .int .i64 0, .int .i64 0, .int .i64 0, .int .i64 0, .bool false, .bool false], .bool false]) (by simp [results, Try.results8, go_sem, c7]) rfl ⟨by rw [HRn.out]; rfl, (by repeat (first | (with_reducible exact hk7) | (with_reducible refine Kept.setCell ?_ (by show _ ≤ r; omega) _)))⟩
          · have hKe0 : K = nameR i := HK.out.symm.trans h2
            clear h2 h4 HWO HDU HK HV
            rcases hi with rfl | rfl
            · have hKe : K = nameR 5 := hKe0
              clear hKe0
              have f0 : (K.toList == [105, 110, 100, 101, 110, 116]) = false := by rw [hKe, ByteArray.toList_eq]; rfl
              have f1 : (K.toList == [119, 105, 100, 116, 104]) = false := by rw [hKe, ByteArray.toList_eq]; rfl
              have f2 : (K.toList == [113, 117, 111, 116, 101]) = false := by rw [hKe, ByteArray.toList_eq]; rfl
              have f3 : (K.toList == [101, 109, 112, 116, 121]) = false := by rw [hKe, ByteArray.toList_eq]; rfl
              have f4 : (K.toList == [108, 105, 110, 101]) = false := by rw [hKe, ByteArray.toList_eq]; rfl
              have f5 : (K.toList == [116, 97, 98, 115]) = true := by rw [hKe, ByteArray.toList_eq]; rfl
              have x5 : (x.toList == [116, 97, 98, 115]) = true := by rw [h3, ByteArray.toList_eq]; rfl
              have x6 : (x.toList == [119, 114, 97, 112]) = false := by rw [h3, ByteArray.toList_eq]; rfl
              clear h3
              have hni : ¬ 5 ∈ seen := fun h => HNI.out (by rw [hKe]; exact List.mem_map.2 ⟨5, h, rfl⟩)
              have hRn : R = parseF (upd c 5 0) (seen ++ [5]) (WS.drop (k + 1)) := by rw [HST.out, parseF_new h1 hni]
              have HRn := Lib.hid hRn
              have cg : ∀ i, w7.cell? ⟨g, i, none⟩ = (#[.int .i64 c.i, .int .i64 c.d, .int .i64 c.q, .int .i64 c.e, .int .i64 c.l, .bool c.t, .bool c.r] : Array Value)[i]? := hb7.cell
              have fg := hb7.frozen
              have HKE := Lib.hid hKe
              clear hRn hni hKe h1
              go_wp2_with fail
              go_roundw
              case rel =>
                refine ⟨k + 1, upd c 5 0, seen ++ [5], hlt, by go_num, hg7.trans (grown_setCell w7 ⟨g, 5, none⟩ _), hb7.set 5 _, ?_, hob8, HRn.out, ?_, by rw [List.length_append, List.length_singleton, HSL.out]; omega⟩
                · rw [List.length_append, List.map_append, HSL.out]
                  refine own_grown ?_ (grown_setCell w7 ⟨g, 5, none⟩ _) (fun e => by have := hob8 g e; omega)
                  have := hown7
                  rw [HKE.out] at this
                  exact this
                · unfold Hid
                  intro j hj
                  rcases List.mem_append.1 hj with hj | hj
                  · exact hsn.out j hj
                  · rw [List.mem_singleton.1 hj]
                    omega
              case measure =>
                simp [intOf]
                omega
            · have hKe : K = nameR 6 := hKe0
              clear hKe0
              have f0 : (K.toList == [105, 110, 100, 101, 110, 116]) = false := by rw [hKe, ByteArray.toList_eq]; rfl
              have f1 : (K.toList == [119, 105, 100, 116, 104]) = false := by rw [hKe, ByteArray.toList_eq]; rfl
              have f2 : (K.toList == [113, 117, 111, 116, 101]) = false := by rw [hKe, ByteArray.toList_eq]; rfl
              have f3 : (K.toList == [101, 109, 112, 116, 121]) = false := by rw [hKe, ByteArray.toList_eq]; rfl
              have f4 : (K.toList == [108, 105, 110, 101]) = false := by rw [hKe, ByteArray.toList_eq]; rfl
              have f5 : (K.toList == [116, 97, 98, 115]) = false := by rw [hKe, ByteArray.toList_eq]; rfl
              have x5 : (x.toList == [116, 97, 98, 115]) = false := by rw [h3, ByteArray.toList_eq]; rfl
              have x6 : (x.toList == [119, 114, 97, 112]) = true := by rw [h3, ByteArray.toList_eq]; rfl
              clear h3
              have hni : ¬ 6 ∈ seen := fun h => HNI.out (by rw [hKe]; exact List.mem_map.2 ⟨6, h, rfl⟩)
              have hRn : R = parseF (upd c 6 0) (seen ++ [6]) (WS.drop (k + 1)) := by rw [HST.out, parseF_new h1 hni]
              have HRn := Lib.hid hRn
              have cg : ∀ i, w7.cell? ⟨g, i, none⟩ = (#[.int .i64 c.i, .int .i64 c.d, .int .i64 c.q, .int .i64 c.e, .int .i64 c.l, .bool c.t, .bool c.r] : Array Value)[i]? := hb7.cell
              have fg := hb7.frozen
              have HKE := Lib.hid hKe
              clear hRn hni hKe h1
              go_wp2_with fail
              go_roundw
              case rel =>
                refine ⟨k + 1, upd c 6 0, seen ++ [6], hlt, by go_num, hg7.trans (grown_setCell w7 ⟨g, 6, none⟩ _), hb7.set 6 _, ?_, hob8, HRn.out, ?_, by rw [List.length_append, List.length_singleton, HSL.out]; omega⟩
                · rw [List.length_append, List.map_append, HSL.out]
                  refine own_grown ?_ (grown_setCell w7 ⟨g, 6, none⟩ _) (fun e => by have := hob8 g e; omega)
                  have := hown7
                  rw [HKE.out] at this
                  exact this
                · unfold Hid
                  intro j hj
                  rcases List.mem_append.1 hj with hj | hj
                  · exact hsn.out j hj
                  · rw [List.mem_singleton.1 hj]
                    omega
              case measure =>
                simp [intOf]
                omega
          · have hKe : ∀ i, i < 5 → K ≠ nameR i := fun i hi e => h2 i hi (HK.out.trans e)
            have hne : ∀ (y z : ByteArray) (l : List UInt8), z.data.toList = l → y ≠ z → (y.toList == l) = false := by
              intro y z l h h'
              rw [beq_eq_false_iff_ne]
              intro e
              apply h'
              apply cstr_eq
              rw [e, ← h, ByteArray.toList_eq]
            have f0 : (K.toList == [105, 110, 100, 101, 110, 116]) = false := hne K (nameR 0) _ rfl (hKe 0 (by omega))
            have f1 : (K.toList == [119, 105, 100, 116, 104]) = false := hne K (nameR 1) _ rfl (hKe 1 (by omega))
            have f2 : (K.toList == [113, 117, 111, 116, 101]) = false := hne K (nameR 2) _ rfl (hKe 2 (by omega))
            have f3 : (K.toList == [101, 109, 112, 116, 121]) = false := hne K (nameR 3) _ rfl (hKe 3 (by omega))
            have f4 : (K.toList == [108, 105, 110, 101]) = false := hne K (nameR 4) _ rfl (hKe 4 (by omega))
            have x5 : (x.toList == [116, 97, 98, 115]) = false := hne x (nameR 5) _ rfl h3
            have x6 : (x.toList == [119, 114, 97, 112]) = false := hne x (nameR 6) _ rfl h4
            have hRn : R = none := by rw [HST.out, parseF_bad h1]
            clear h1 h2 h3 h4 hKe hne HWO HDU HK HV HST
            have HRn := Lib.hid hRn
            have c7 := hbr7.cell
            have fr7 := hbr7.frozen
            clear hRn
            go_wp2_with fail
            exact bodyPost_ret (v := .tuple #[.agg #[.int .i64 0, .int .i64 0, .int .i64 0, .int .i64 0, .int .i64 0, .bool false, .bool false], .bool false]) (by simp [results, Try.results8, go_sem, c7]) rfl ⟨by rw [HRn.out]; rfl, (by repeat (first | (with_reducible exact hk7) | (with_reducible refine Kept.setCell ?_ (by show _ ≤ r; omega) _)))⟩
    · obtain rfl : k = n := by omega
      have hRn : R = some (clampF c) := by
        rw [hinv.out, List.drop_eq_nil_of_le (by have := HL.out; omega)]
        rfl
      have HRn := Lib.hid hRn
      have hc := fun w => rclamp_any c w
      obtain ⟨c', hc'⟩ : ∃ c', clampF c = c' := ⟨_, rfl⟩
      rw [hc'] at HRn hc
      have HC := Lib.hid hc
      have cg : ∀ i, wr.cell? ⟨g, i, none⟩ = (#[.int .i64 c.i, .int .i64 c.d, .int .i64 c.q, .int .i64 c.e, .int .i64 c.l, .bool c.t, .bool c.r] : Array Value)[i]? := hbg.cell
      have lg := hbg.lt
      clear hRn hc hc' hVr hV hinv
      go_wp2_with fail
      refine (HC.out _).mono ?_
      rintro e w5 ⟨rfl, k5'⟩
      have k5 : Kept w w5 := kwr.trans k5'
      have hbr5 : Blk w5 r #[.int .i64 0, .int .i64 0, .int .i64 0, .int .i64 0, .int .i64 0, .bool false, .bool false] 27 := hbr.kept k5'
      have c5 := hbr5.cell
      have f5 := hbr5.frozen
      have l5 := hbr5.lt
      clear cg
      dsimp only [Cf.val]
      go_wp2_with fail
      exact bodyPost_ret (v := .tuple #[c'.val, .bool true]) (by simp [results, Try.results8, go_sem, c5, Cf.val]) rfl ⟨by rw [HRn.out]; rfl, (by repeat (first | (with_reducible exact k5) | (with_reducible refine Kept.setCell ?_ (by show _ ≤ r; omega) _)))⟩
end Go.Proofs.Ytmicmmbdkmmnoaa
