/- A step as a line, the document's way: walked (printed by wip/gen/gen_scpj.py). -/
import Derived.Test.YtmcmicgdkdbgjaaDoorScpI
import Derived.Test.YtmcmicgdkdbgjaaDoorScrZ
namespace Go.Proofs.YtmcmicgdkdbgjaaDoor
open Go.RowKit
attribute [local go_sem ↓] Go.wp_at_zero Go.wp_at_succ

theorem wordK_any (K : Nat) (h9 : K ≤ 9) (w : World) : Calls Tryd.prog 39 #[] w fun e w' => ∃ g, e = .returned (.slice (some ⟨g, 0, none⟩) 10 10) ∧ w'.cell? ⟨g, K, none⟩ = some (.string (strB (wordOf K))) ∧ Kept w w' := by
  refine (words_any w).mono ?_
  rintro e w' ⟨he, hs, hk⟩
  obtain ⟨b, i, x, e1, hx, x0⟩ := hs.one (k := K) (by omega)
  injection e1 with e1
  injection e1 with e1 e2
  subst e1 e2
  refine ⟨_, he, ?_, hk⟩
  rw [Nat.zero_add] at x0
  rw [x0]
  have : wordOf K = x := by
    unfold wordOf
    rw [List.getD_eq_getElem?_getD, hx]
    rfl
  rw [this]
  rfl
set_option maxRecDepth 100000 in
set_option maxHeartbeats 16000000 in
theorem dline_any (st : St) (A : Option Addr) (m c : Nat) (B : Option Addr) (n d : Nat) (a t : ByteArray) (w : World) (h1 : 1 ≤ st.k) (h9 : st.k ≤ 9) (hok : st.okN) (hA : Sl w 1 A m c (st.p.map natV)) (hB : Sl w 1 B n d (st.q.map natV)) (hm : m ≤ 1000) (hn : n ≤ 1000) (has : a.size ≤ 1000) (hts : t.size ≤ 1000) (hat : a.toList = st.a ∧ t.toList = st.t) :
    Calls Tryd.prog 20 #[.agg #[.int .i64 (st.k : Int), .slice A m c, .slice B n d, .int .i64 (st.n : Int), .string a, .string t]] w fun e w' => e = .returned (.string (strB (lineF st))) ∧ Kept w w' := by
  have HPA := Lib.hid hA
  have HQA := Lib.hid hB
  have hml : st.p.length = m := by simpa using hA.llen1
  have hnl : st.q.length = n := by simpa using hB.llen1
  have hal : st.a.length = a.size := by rw [← hat.1, bytes_len]
  have htl : st.t.length = t.size := by rw [← hat.2, bytes_len]
  have HPL := Lib.hid (piece_len st hok (by omega) (by omega) (by omega) (by omega))
  have HB : Hid (m ≤ 1000 ∧ n ≤ 1000 ∧ a.size ≤ 1000 ∧ t.size ≤ 1000) := ⟨hm, hn, has, hts⟩
  have HOK := Lib.hid hok
  have HAT := Lib.hid hat
  have HWK := Lib.hid (wordK_any st.k h9)
  have HSK := Lib.hid (signK_any st.k h9)
  have hwl := word_len ⟨st.k, by omega⟩
  dsimp only at hwl
  have HLF : Hid (lineF st = wordOf st.k ++ fieldsT st (signOf st.k)) := rfl
  have p0 : (0 : Int) ≤ st.k := by omega
  have p1 : (st.k : Int) < 10 := by omega
  have k0 : Kept w _ := (Kept.refl w).alloc (.cells #[.int .i64 (st.k : Int), .slice A m c, .slice B n d, .int .i64 (st.n : Int), .string a, .string t] 38)
  have b1 := Blk.new w #[.int .i64 (st.k : Int), .slice A m c, .slice B n d, .int .i64 (st.n : Int), .string a, .string t] 38
  clear hat hok hA hB hm hn has hts hml hnl hal htl h1 h9
  rw [HLF.out]
  go_enter Tryd.func20, Tryd.ntmps20
  go_upto_region 1 with fail
  generalize w.alloc (.cells #[.int .i64 (st.k : Int), .slice A m c, .slice B n d, .int .i64 (st.n : Int), .string a, .string t] 38) = w1 at k0 b1 ⊢
  obtain ⟨g, hgg⟩ : ∃ g, w.heap.size = g := ⟨_, rfl⟩
  rw [hgg] at b1 ⊢
  clear hgg
  have HB1 := Lib.hid b1
  have x0 : w1.cell? ⟨g, 0, none⟩ = some (.int .i64 (st.k : Int)) := Blk.cell b1 0
  clear b1
  go_cut [3] (fun v wx => v = .string (strB (wordOf st.k)) ∧ Kept w1 wx)
  case first =>
    go_region_with (first | (go_at_call 39; refine (HWK.out _).mono ?_; rintro e w5 ⟨g5, rfl, x5, k5⟩; have bc5 := k5.cell (show w1.drew.cell? ⟨g, 0, none⟩ = some (.int .i64 (st.k : Int)) from x0)))
    all_goals
      go_wp2_with fail
      go_meet
      exact ⟨rfl, (Kept.refl w1).drew.trans k5⟩
  case rest =>
  obtain ⟨rfl, kc⟩ := hcut
  have k3 := k0.trans kc
  have b3 := Blk.kept HB1.out kc
  clear HB1 x0 kc k0
  have HB3 := Lib.hid b3
  have x0 : wc.cell? ⟨g, 0, none⟩ = some (.int .i64 (st.k : Int)) := Blk.cell b3 0
  clear b3
  go_upto_region 2 with fail
  go_cut [4] (fun v wx => v = .string (strB (signOf st.k)) ∧ Kept wc wx)
  case first =>
    go_region_with (first | (go_at_call 37; refine (HSK.out _).mono ?_; rintro e w5 ⟨g5, rfl, x5, k5⟩; have bc5 := k5.cell (show wc.drew.cell? ⟨g, 0, none⟩ = some (.int .i64 (st.k : Int)) from x0)))
    all_goals
      go_wp2_with fail
      go_meet
      exact ⟨rfl, (Kept.refl wc).drew.trans k5⟩
  case rest =>
  obtain ⟨rfl, kd⟩ := hcut
  obtain ⟨w4, hw4⟩ : ∃ w4, wc = w4 := ⟨_, rfl⟩
  rw [hw4] at kd ⊢
  clear hw4
  have k4 := k3.trans kd
  have b4 := Blk.kept HB3.out kd
  clear HB3 x0 kd k3
  have HB4 := Lib.hid b4
  clear b4
  obtain ⟨sg, hsg⟩ : ∃ sg, signOf st.k = sg := ⟨_, rfl⟩
  rw [hsg] at hwl ⊢
  obtain ⟨S, hS⟩ : ∃ S, strB sg = S := ⟨_, rfl⟩
  obtain ⟨W, hW⟩ : ∃ W, strB (wordOf st.k) = W := ⟨_, rfl⟩
  rw [hS, hW]
  have hSl : S.toList = sg := by rw [← hS, strB_list]
  have hWl : W.toList = wordOf st.k := by rw [← hW, strB_list]
  have hSz : S.size ≤ 10 := by rw [← hS, strB_size]; exact hwl.2.1
  have hWz : W.size ≤ 10 := by rw [← hW, strB_size]; exact hwl.1
  have HSG := Lib.hid hwl.2.2
  have HSL := Lib.hid hSl
  have HO0 : Hid (W.toList = wordOf st.k ++ fieldsT st (sg.take 0)) := by
    unfold Hid
    rw [hWl]
    show _ = _ ++ []
    rw [List.append_nil]
  clear hS hW hSl hWl hwl HWK HSK p0 p1
  go_wp2_with fail
  go_loopw [3, 5] (fun s i wr => ∃ (k : Nat) (O : ByteArray), k ≤ S.size ∧ i = .int .i64 k ∧ s = .string O ∧ Hid (O.toList = wordOf st.k ++ fieldsT st (sg.take k)) ∧ O.size ≤ 10 + 10003 * k ∧ Kept w4 wr) (fun _ i _ => S.size - (intOf i).toNat)
  case atStart => exact ⟨0, W, Nat.zero_le _, rfl, rfl, HO0, by omega, Kept.refl _⟩
  case round =>
    clear HO0
    obtain ⟨k, O, hk, rfl, rfl, HO, hOs, kr⟩ := hrel
    have s1 : IntKind.i64.wrap ((k : Int) + 1) = (k : Int) + 1 := IntWalk.i64_in _ (by omega)
    by_cases hlt : k < S.size
    · have l1 : (k : Int) < S.size := by omega
      have l2 : (0 : Int) ≤ k := by omega
      obtain ⟨b, hb⟩ : ∃ b, S[k]'hlt = b := ⟨_, rfl⟩
      have hget : sg[k]? = some b := by
        rw [← HSL.out, bytes_get hlt, hb]
      have hsc : signB b = true := List.all_eq_true.1 HSG.out b (List.mem_of_getElem? hget)
      have HNX : Hid (∀ T : ByteArray, T.toList = pieceF st b → (O ++ ⟨#[32]⟩ ++ T).toList = wordOf st.k ++ fieldsT st (sg.take (k + 1))) := by
        intro T hT
        rw [toList_app, toList_app, HO.out, hT, fields_take hget, ByteArray.toList_eq ⟨#[32]⟩]
        simp
      have hcs : b = 112 ∨ b = 113 ∨ b = 110 ∨ b = 97 ∨ b = 116 := by
        unfold signB at hsc
        simp at hsc
        rcases hsc with (((h | h) | h) | h) | h <;> simp [h]
      clear hget hsc HO
      rcases hcs with hbc | hbc | hbc | hbc | hbc
      · obtain ⟨T, hT⟩ : ∃ T, strB (pieceF st 112) = T := ⟨_, rfl⟩
        have hTs : T.size ≤ 10002 := by rw [← hT, strB_size]; exact HPL.out 112
        have HTL : Hid (T.toList = pieceF st b) := by unfold Hid; rw [← hT, strB_list, hbc]
        have HC : Hid (Calls Tryd.prog 40 #[.slice A m c] wr fun e w' => e = .returned (.string T) ∧ Kept wr w') := by
          have := rpprint_any A m c st.p wr (HPA.out.kept (k4.trans kr)) HOK.out.1 HB.out.1
          rw [show pathT st.p = pieceF st 112 from rfl, hT] at this
          exact this
        have x1 : wr.cell? ⟨g, 1, none⟩ = some (.slice A m c) := Blk.cell (Blk.kept HB4.out kr) 1
        have m112 : ((b.toNat : Int) == 112) = true := by rw [hbc]; rfl
        clear hT hbc
        go_wp2_with fail
        refine HC.out.mono ?_
        rintro e w2 ⟨rfl, k2⟩
        have HO2 : Hid ((O ++ ⟨#[32]⟩ ++ T).toList = wordOf st.k ++ fieldsT st (sg.take (k + 1))) := HNX.out T HTL.out
        have hO2 : (O ++ ⟨#[32]⟩ ++ T).size ≤ 10 + 10003 * (k + 1) := by
          rw [ByteArray.size_append, ByteArray.size_append, show (⟨#[32]⟩ : ByteArray).size = 1 from rfl]
          omega
        go_wp2_with fail
        go_roundw
        case rel => exact ⟨k + 1, _, hlt, by go_num, rfl, HO2, hO2, kr.trans k2⟩
        case measure =>
          simp [intOf]
          omega
      · obtain ⟨T, hT⟩ : ∃ T, strB (pieceF st 113) = T := ⟨_, rfl⟩
        have hTs : T.size ≤ 10002 := by rw [← hT, strB_size]; exact HPL.out 113
        have HTL : Hid (T.toList = pieceF st b) := by unfold Hid; rw [← hT, strB_list, hbc]
        have HC : Hid (Calls Tryd.prog 40 #[.slice B n d] wr fun e w' => e = .returned (.string T) ∧ Kept wr w') := by
          have := rpprint_any B n d st.q wr (HQA.out.kept (k4.trans kr)) HOK.out.2.1 HB.out.2.1
          rw [show pathT st.q = pieceF st 113 from rfl, hT] at this
          exact this
        have x2 : wr.cell? ⟨g, 2, none⟩ = some (.slice B n d) := Blk.cell (Blk.kept HB4.out kr) 2
        have m112 : ((b.toNat : Int) == 112) = false := by rw [hbc]; rfl
        have m113 : ((b.toNat : Int) == 113) = true := by rw [hbc]; rfl
        clear hT hbc
        go_wp2_with fail
        refine HC.out.mono ?_
        rintro e w2 ⟨rfl, k2⟩
        have HO2 : Hid ((O ++ ⟨#[32]⟩ ++ T).toList = wordOf st.k ++ fieldsT st (sg.take (k + 1))) := HNX.out T HTL.out
        have hO2 : (O ++ ⟨#[32]⟩ ++ T).size ≤ 10 + 10003 * (k + 1) := by
          rw [ByteArray.size_append, ByteArray.size_append, show (⟨#[32]⟩ : ByteArray).size = 1 from rfl]
          omega
        go_wp2_with fail
        go_roundw
        case rel => exact ⟨k + 1, _, hlt, by go_num, rfl, HO2, hO2, kr.trans k2⟩
        case measure =>
          simp [intOf]
          omega
      · obtain ⟨T, hT⟩ : ∃ T, strB (pieceF st 110) = T := ⟨_, rfl⟩
        have hTs : T.size ≤ 10002 := by rw [← hT, strB_size]; exact HPL.out 110
        have HTL : Hid (T.toList = pieceF st b) := by unfold Hid; rw [← hT, strB_list, hbc]
        have HC : Hid (Calls Tryd.prog 40 #[.slice (some ⟨wr.heap.size, 0, none⟩) 1 1] (wr.alloc (.cells #[.int .i64 (st.n : Int)] 3)) fun e w' => e = .returned (.string T) ∧ Kept wr w') := by
          have := rpprint_any (some ⟨wr.heap.size, 0, none⟩) 1 1 [st.n] (wr.alloc (.cells #[.int .i64 (st.n : Int)] 3)) (Sl.lit1 (cs := [natV st.n]) rfl rfl (by omega)) (by have := HOK.out.2.2; simpa using this) (by omega)
          rw [show pathT [st.n] = pieceF st 110 from rfl, hT] at this
          exact this.mono fun e w' h => ⟨h.1, ((Kept.refl wr).alloc _).trans h.2⟩
        have x3 : wr.cell? ⟨g, 3, none⟩ = some (.int .i64 (st.n : Int)) := Blk.cell (Blk.kept HB4.out kr) 3
        have m112 : ((b.toNat : Int) == 112) = false := by rw [hbc]; rfl
        have m113 : ((b.toNat : Int) == 113) = false := by rw [hbc]; rfl
        have m110 : ((b.toNat : Int) == 110) = true := by rw [hbc]; rfl
        clear hT hbc
        go_wp2_with fail
        refine HC.out.mono ?_
        rintro e w2 ⟨rfl, k2⟩
        have HO2 : Hid ((O ++ ⟨#[32]⟩ ++ T).toList = wordOf st.k ++ fieldsT st (sg.take (k + 1))) := HNX.out T HTL.out
        have hO2 : (O ++ ⟨#[32]⟩ ++ T).size ≤ 10 + 10003 * (k + 1) := by
          rw [ByteArray.size_append, ByteArray.size_append, show (⟨#[32]⟩ : ByteArray).size = 1 from rfl]
          omega
        go_wp2_with fail
        go_roundw
        case rel => exact ⟨k + 1, _, hlt, by go_num, rfl, HO2, hO2, kr.trans k2⟩
        case measure =>
          simp [intOf]
          omega
      · obtain ⟨T, hT⟩ : ∃ T, strB (pieceF st 97) = T := ⟨_, rfl⟩
        have hTs : T.size ≤ 10002 := by rw [← hT, strB_size]; exact HPL.out 97
        have HTL : Hid (T.toList = pieceF st b) := by unfold Hid; rw [← hT, strB_list, hbc]
        have HC : Hid (Calls Tryd.prog 15 #[.string a] wr fun e w' => e = .returned (.string T) ∧ Kept wr w') := by
          have := rquoted_any a wr HB.out.2.2.1
          rw [HAT.out.1, show quotedF st.a = pieceF st 97 from rfl, hT] at this
          exact this
        have x4 : wr.cell? ⟨g, 4, none⟩ = some (.string a) := Blk.cell (Blk.kept HB4.out kr) 4
        have m112 : ((b.toNat : Int) == 112) = false := by rw [hbc]; rfl
        have m113 : ((b.toNat : Int) == 113) = false := by rw [hbc]; rfl
        have m110 : ((b.toNat : Int) == 110) = false := by rw [hbc]; rfl
        have m97 : ((b.toNat : Int) == 97) = true := by rw [hbc]; rfl
        clear hT hbc
        go_wp2_with fail
        refine HC.out.mono ?_
        rintro e w2 ⟨rfl, k2⟩
        have HO2 : Hid ((O ++ ⟨#[32]⟩ ++ T).toList = wordOf st.k ++ fieldsT st (sg.take (k + 1))) := HNX.out T HTL.out
        have hO2 : (O ++ ⟨#[32]⟩ ++ T).size ≤ 10 + 10003 * (k + 1) := by
          rw [ByteArray.size_append, ByteArray.size_append, show (⟨#[32]⟩ : ByteArray).size = 1 from rfl]
          omega
        go_wp2_with fail
        go_roundw
        case rel => exact ⟨k + 1, _, hlt, by go_num, rfl, HO2, hO2, kr.trans k2⟩
        case measure =>
          simp [intOf]
          omega
      · obtain ⟨T, hT⟩ : ∃ T, strB (pieceF st 116) = T := ⟨_, rfl⟩
        have hTs : T.size ≤ 10002 := by rw [← hT, strB_size]; exact HPL.out 116
        have HTL : Hid (T.toList = pieceF st b) := by unfold Hid; rw [← hT, strB_list, hbc]
        have HC : Hid (Calls Tryd.prog 15 #[.string t] wr fun e w' => e = .returned (.string T) ∧ Kept wr w') := by
          have := rquoted_any t wr HB.out.2.2.2
          rw [HAT.out.2, show quotedF st.t = pieceF st 116 from rfl, hT] at this
          exact this
        have x5 : wr.cell? ⟨g, 5, none⟩ = some (.string t) := Blk.cell (Blk.kept HB4.out kr) 5
        have m112 : ((b.toNat : Int) == 112) = false := by rw [hbc]; rfl
        have m113 : ((b.toNat : Int) == 113) = false := by rw [hbc]; rfl
        have m110 : ((b.toNat : Int) == 110) = false := by rw [hbc]; rfl
        have m97 : ((b.toNat : Int) == 97) = false := by rw [hbc]; rfl
        clear hT hbc
        go_wp2_with fail
        refine HC.out.mono ?_
        rintro e w2 ⟨rfl, k2⟩
        have HO2 : Hid ((O ++ ⟨#[32]⟩ ++ T).toList = wordOf st.k ++ fieldsT st (sg.take (k + 1))) := HNX.out T HTL.out
        have hO2 : (O ++ ⟨#[32]⟩ ++ T).size ≤ 10 + 10003 * (k + 1) := by
          rw [ByteArray.size_append, ByteArray.size_append, show (⟨#[32]⟩ : ByteArray).size = 1 from rfl]
          omega
        go_wp2_with fail
        go_roundw
        case rel => exact ⟨k + 1, _, hlt, by go_num, rfl, HO2, hO2, kr.trans k2⟩
        case measure =>
          simp [intOf]
          omega
    · have HE : Hid (O = strB (wordOf st.k ++ fieldsT st sg)) := by
        unfold Hid
        apply cstr_eq
        rw [strB_list, HO.out, List.take_of_length_le (by rw [← HSL.out, bytes_len]; omega)]
      have l1 : ¬ (k : Int) < S.size := by omega
      clear HO
      go_wp2_with fail
      go_ret
      exact ⟨by rw [← HE.out]; rfl, k4.trans kr⟩
end Go.Proofs.YtmcmicgdkdbgjaaDoor
