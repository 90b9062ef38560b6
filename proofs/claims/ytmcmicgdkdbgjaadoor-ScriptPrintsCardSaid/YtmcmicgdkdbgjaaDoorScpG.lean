/- A step as a line: script.Line, walked (printed by wip/gen/gen_scpg.py). -/
import Derived.Test.YtmcmicgdkdbgjaaDoorScpC
import Derived.Test.YtmcmicgdkdbgjaaDoorScpF
import Derived.Test.YtmcmicgdkdbgjaaDoorScrY
namespace Go.Proofs.YtmcmicgdkdbgjaaDoor
open Go.RowKit
attribute [local go_sem ↓] Go.wp_at_zero Go.wp_at_succ

theorem form_none (k : Int) (hk : ¬ (1 ≤ k ∧ k ≤ 9)) (w : World) : Calls Tryd.prog 32 #[.int .i64 k] w fun e w' => e = .returned (.tuple #[.string ⟨#[]⟩, .string ⟨#[]⟩]) ∧ w = w' := by
  have f1 : (k == 1) = false := by rw [Bool.eq_false_iff]; intro e; have := beq_iff_eq.1 e; omega
  have f2 : (k == 2) = false := by rw [Bool.eq_false_iff]; intro e; have := beq_iff_eq.1 e; omega
  have f3 : (k == 3) = false := by rw [Bool.eq_false_iff]; intro e; have := beq_iff_eq.1 e; omega
  have f4 : (k == 4) = false := by rw [Bool.eq_false_iff]; intro e; have := beq_iff_eq.1 e; omega
  have f5 : (k == 5) = false := by rw [Bool.eq_false_iff]; intro e; have := beq_iff_eq.1 e; omega
  have f6 : (k == 6) = false := by rw [Bool.eq_false_iff]; intro e; have := beq_iff_eq.1 e; omega
  have f7 : (k == 7) = false := by rw [Bool.eq_false_iff]; intro e; have := beq_iff_eq.1 e; omega
  have f8 : (k == 8) = false := by rw [Bool.eq_false_iff]; intro e; have := beq_iff_eq.1 e; omega
  have f9 : (k == 9) = false := by rw [Bool.eq_false_iff]; intro e; have := beq_iff_eq.1 e; omega
  clear hk
  go_enter Tryd.func32, Tryd.ntmps32
  go_wp2_with fail
  go_ret2
  exact ⟨rfl, rfl⟩
/-- May a step be said? -/
def mayO (k : Int) (p q : List Int) (N : Int) (a t : Bs) : Bool := decide (1 ≤ k ∧ k ≤ 9) && (mayL p && (mayL q && (okN N && restF (signOf k.toNat) (q.length == 0) (N == 0) (a == []) (t == []))))
def lineV (b : Bool) (X : Bs) : Value := if b then .tuple #[.string (strB X), .int .i64 0] else .tuple #[.string ⟨#[]⟩, .int .i64 1]
/-- Where the line stands. -/
structure Lx (w : World) (g it : Nat) (S : ByteArray) (cs : Array Value) (ty : TypeId) (wr : World) (pos : Nat) : Prop where
  bo : Blk wr g cs ty
  hit : wr.heap[it]? = some (.stringIter S pos)
  kp : Kept w wr
  lo : w.heap.size ≤ it
  ne : g ≠ it
theorem Lx.itlt {w : World} {g it pos : Nat} {S : ByteArray} {cs : Array Value} {ty : TypeId} {wr : World} (h : Lx w g it S cs ty wr pos) : it < wr.heap.size := by
  rcases Nat.lt_or_ge it wr.heap.size with h1 | h1
  · exact h1
  · have := h.hit
    rw [Array.getElem?_eq_none h1] at this
    cases this
theorem Lx.next {w : World} {g it pos : Nat} {S : ByteArray} {cs : Array Value} {ty : TypeId} {wr : World} (h : Lx w g it S cs ty wr pos) (p : Nat) : Lx w g it S cs ty (wr.iterAt it S p) p :=
  ⟨Blk.grown h.bo (grown_iter wr it S p) (fun e => h.ne (Option.some.inj e)), Lib.iterAt_heap wr it S pos p h.hit, Lib.below_iterAt h.kp h.lo S p, h.lo, h.ne⟩
theorem Lx.kept {w : World} {g it pos : Nat} {S : ByteArray} {cs : Array Value} {ty : TypeId} {wr w2 : World} (h : Lx w g it S cs ty wr pos) (k : Kept wr w2) : Lx w g it S cs ty w2 pos :=
  ⟨Blk.kept h.bo k, (Below.block k it h.itlt).trans h.hit, h.kp.trans k, h.lo, h.ne⟩
theorem piece_len (s : St) (h : s.okN) (hp : s.p.length ≤ 1000) (hq : s.q.length ≤ 1000) (ha : s.a.length ≤ 1000) (ht : s.t.length ≤ 1000) (c : UInt8) : (pieceF s c).length ≤ 10002 := by
  unfold pieceF
  have h1 := path_len s.p h.1
  have h2 := path_len s.q h.2.1
  have h3 := path_len [s.n] (by have := h.2.2; simpa using this)
  have h4 := quoted_len s.a
  have h5 := quoted_len s.t
  rw [List.length_singleton] at h3
  split
  · omega
  · split
    · omega
    · split
      · omega
      · split <;> omega
theorem fields_take {s : St} {sg : Bs} {k : Nat} {c : UInt8} (h : sg[k]? = some c) : fieldsT s (sg.take (k + 1)) = fieldsT s (sg.take k) ++ 32 :: pieceF s c := by
  unfold fieldsT
  rw [List.take_add_one, h, List.flatMap_append]
  simp
theorem word_len : ∀ k : Fin 10, (wordOf k.val).length ≤ 10 ∧ (signOf k.val).length ≤ 10 ∧ (signOf k.val).all signB = true := by decide
theorem map_back (p : List Nat) : (p.map (fun n : Nat => (n : Int))).map Int.toNat = p := by
  rw [List.map_map]
  conv => rhs; rw [← List.map_id p]
  rfl
theorem may_ok : ∀ p : List Nat, (∀ n ∈ p, n < 1000000000) → mayL (p.map fun n : Nat => (n : Int)) = true
  | [], _ => rfl
  | x :: p, h => by
    have h1 := may_ok p fun y hy => h y (by simp [hy])
    have h2 := okNat.2 (h x (by simp))
    unfold mayL at h1 ⊢
    rw [List.map_cons, List.all_cons, h1, h2]
    rfl
set_option maxRecDepth 100000 in
set_option maxHeartbeats 16000000 in
theorem line_tail (st : St) (A : Option Addr) (m c : Nat) (B : Option Addr) (n d : Nat) (a t : ByteArray) (w : World) (h1 : 1 ≤ st.k) (h9 : st.k ≤ 9) (hok : st.okN) (hA : Sl w 1 A m c (st.p.map natV)) (hB : Sl w 1 B n d (st.q.map natV)) (hm : m ≤ 1000) (hn : n ≤ 1000) (has : a.size ≤ 1000) (hts : t.size ≤ 1000) (hat : a.toList = st.a ∧ t.toList = st.t)
    (hr : st.rest (signOf st.k) = true) :
    Calls Tryd.prog 17 #[.agg #[.int .i64 (st.k : Int), .slice A m c, .slice B n d, .int .i64 (st.n : Int), .string a, .string t]] w fun e w' => e = .returned (lineV true (lineF st)) ∧ Kept w w' := by
  have HPA := Lib.hid hA
  have HQA := Lib.hid hB
  have hml : st.p.length = m := by simpa using hA.llen1
  have hnl : st.q.length = n := by simpa using hB.llen1
  have hal : st.a.length = a.size := by rw [← hat.1, bytes_len]
  have htl : st.t.length = t.size := by rw [← hat.2, bytes_len]
  have HPL := Lib.hid (piece_len st hok (by omega) (by omega) (by omega) (by omega))
  have HB : Hid (m ≤ 1000 ∧ n ≤ 1000 ∧ a.size ≤ 1000 ∧ t.size ≤ 1000) := ⟨hm, hn, has, hts⟩
  have HOK := Lib.hid hok
  have HAT := Lib.hid hat
  have hF := form_any st.k h1 h9
  have hwl := word_len ⟨st.k, by omega⟩
  have hne := word_ne ⟨st.k, by omega⟩ h1
  obtain ⟨sg, hsg⟩ : ∃ sg, signOf st.k = sg := ⟨_, rfl⟩
  dsimp only at hwl hne
  rw [hsg] at hF hr hwl
  obtain ⟨S, hS⟩ : ∃ S, strB sg = S := ⟨_, rfl⟩
  obtain ⟨W, hW⟩ : ∃ W, strB (wordOf st.k) = W := ⟨_, rfl⟩
  rw [hS, hW] at hF
  have HF := Lib.hid hF
  have hSl : S.toList = sg := by rw [← hS, strB_list]
  have hWl : W.toList = wordOf st.k := by rw [← hW, strB_list]
  have hSz : S.size ≤ 10 := by rw [← hS, strB_size]; exact hwl.2.1
  have hWz : W.size ≤ 10 := by rw [← hW, strB_size]; exact hwl.1
  have e1 : (W.toList == []) = false := by rw [hWl]; simpa using hne
  have e2 : W.toList.isEmpty = false := by rw [hWl]; simpa using hne
  have HSG := Lib.hid hwl.2.2
  have HSL := Lib.hid hSl
  have HWL := Lib.hid hWl
  have HLF : Hid (lineF st = wordOf st.k ++ fieldsT st sg) := by unfold Hid lineF; rw [hsg]
  have hM1 : ∀ w', Kept w w' → Calls Tryd.prog 33 #[.slice A m c] w' fun e w'' => e = .returned (.bool true) ∧ w' = w'' := fun w' k => by
    have := may_any A m c (st.p.map fun n : Nat => (n : Int)) w' (by rw [nat_vals]; exact hA.kept k)
    rw [may_ok _ hok.1] at this
    exact this
  have hM2 : ∀ w', Kept w w' → Calls Tryd.prog 33 #[.slice B n d] w' fun e w'' => e = .returned (.bool true) ∧ w' = w'' := fun w' k => by
    have := may_any B n d (st.q.map fun n : Nat => (n : Int)) w' (by rw [nat_vals]; exact hB.kept k)
    rw [may_ok _ hok.2.1] at this
    exact this
  have hM3 : ∀ w' : World, Calls Tryd.prog 33 #[.slice (some ⟨w'.heap.size, 0, none⟩) 1 1] (w'.alloc (.cells #[.int .i64 (st.n : Int)] 3)) fun e w'' => e = .returned (.bool true) ∧ w'.alloc (.cells #[.int .i64 (st.n : Int)] 3) = w'' := fun w' => by
    have := may_any (some ⟨w'.heap.size, 0, none⟩) 1 1 ([st.n].map fun n : Nat => (n : Int)) (w'.alloc (.cells #[.int .i64 (st.n : Int)] 3)) (Sl.lit1 (cs := [natV st.n]) rfl rfl (by omega))
    rw [may_ok _ (by have := hok.2.2; simpa using this)] at this
    exact this
  have hRE : ∀ w', Calls Tryd.prog 34 #[.agg #[.int .i64 (st.k : Int), .slice A m c, .slice B n d, .int .i64 (st.n : Int), .string a, .string t], .string S] w' fun e w'' => e = .returned (.bool true) ∧ Kept w' w'' := fun w' => by
    have hf := has_fin ⟨st.k, by omega⟩
    dsimp only at hf
    rw [hsg] at hf
    have hd : S.data.toList = sg := by rw [← ByteArray.toList_eq]; exact hSl
    have := rest_any (st.k : Int) A m c B n d (st.n : Int) a t S (hasC sg 113) (hasC sg 110) (hasC sg 97) (hasC sg 116) _ _ _ _ w' (by rw [hd]; exact hf.1) (by rw [hd]; exact hf.2.1) (by rw [hd]; exact hf.2.2.1) (by rw [hd]; exact hf.2.2.2) rfl rfl rfl (by cases a.toList <;> rfl) rfl (by cases t.toList <;> rfl)
    refine this.mono fun e w'' h => ⟨?_, h.2⟩
    rw [h.1]
    unfold St.rest restF at hr
    rw [hat.1, hat.2]
    have q1 : ((n : Int) == 0) = st.q.isEmpty := by
      rw [← hnl]
      cases st.q with
      | nil => rfl
      | cons x l => simp; omega
    have q2 : ((st.n : Int) == 0) = (st.n == 0) := by rw [Bool.eq_iff_iff]; simp
    have q3 : (st.a == []) = st.a.isEmpty := by cases st.a <;> rfl
    have q4 : (st.t == []) = st.t.isEmpty := by cases st.t <;> rfl
    rw [q1, q2, q3, q4, hr]
  have H1 := Lib.hid hM1
  have H2 := Lib.hid hM2
  have H3 := Lib.hid hM3
  have H4 := Lib.hid hRE
  have k0 : Kept w _ := (Kept.refl w).alloc (.cells #[.int .i64 (st.k : Int), .slice A m c, .slice B n d, .int .i64 (st.n : Int), .string a, .string t] 37)
  have b1 := Blk.new w #[.int .i64 (st.k : Int), .slice A m c, .slice B n d, .int .i64 (st.n : Int), .string a, .string t] 37
  have hg : w.heap.size < (w.alloc (.cells #[.int .i64 (st.k : Int), .slice A m c, .slice B n d, .int .i64 (st.n : Int), .string a, .string t] 37)).heap.size := by simp
  clear hM1 hM2 hM3 hRE hF hS hW hSl hWl hsg hwl hne hat hok hA hB hm hn has hts hr hml hnl hal htl
  rw [HLF.out]
  go_enter Tryd.func17, Tryd.ntmps17
  go_upto_region 1 with fail
  generalize w.alloc (.cells #[.int .i64 (st.k : Int), .slice A m c, .slice B n d, .int .i64 (st.n : Int), .string a, .string t] 37) = w1 at k0 b1 hg ⊢
  obtain ⟨g, hgg⟩ : ∃ g, w.heap.size = g := ⟨_, rfl⟩
  rw [hgg] at b1 hg ⊢
  have HB1 := Lib.hid b1
  have bc := Blk.cell b1
  have x0 : w1.cell? ⟨g, 0, none⟩ = some (.int .i64 (st.k : Int)) := bc 0
  have x1 : w1.cell? ⟨g, 1, none⟩ = some (.slice A m c) := bc 1
  have x2 : w1.cell? ⟨g, 2, none⟩ = some (.slice B n d) := bc 2
  have x3 : w1.cell? ⟨g, 3, none⟩ = some (.int .i64 (st.n : Int)) := bc 3
  clear bc b1
  go_wp2_with fail
  refine (HF.out _).mono ?_
  rintro e w2 ⟨rfl, rfl⟩
  go_wp2_with fail
  refine (H1.out _ k0).mono ?_
  rintro e w2 ⟨rfl, rfl⟩
  go_wp2_with fail
  refine (H2.out _ k0).mono ?_
  rintro e w2 ⟨rfl, rfl⟩
  go_wp2_with fail
  refine (H3.out _).mono ?_
  rintro e w2 ⟨rfl, rfl⟩
  have k1 := k0.alloc (.cells #[.int .i64 (st.n : Int)] 3)
  have b2 := (HB1.out).alloc (.cells #[.int .i64 (st.n : Int)] 3)
  have hg2 : g < (w1.alloc (.cells #[.int .i64 (st.n : Int)] 3)).heap.size := by simp; omega
  clear HB1 x0 x1 x2 x3
  generalize w1.alloc (.cells #[.int .i64 (st.n : Int)] 3) = w2 at k1 b2 hg2 ⊢
  have bc := Blk.cell b2
  have x0 : w2.cell? ⟨g, 0, none⟩ = some (.int .i64 (st.k : Int)) := bc 0
  have x1 : w2.cell? ⟨g, 1, none⟩ = some (.slice A m c) := bc 1
  have x2 : w2.cell? ⟨g, 2, none⟩ = some (.slice B n d) := bc 2
  have x3 : w2.cell? ⟨g, 3, none⟩ = some (.int .i64 (st.n : Int)) := bc 3
  have x4 : w2.cell? ⟨g, 4, none⟩ = some (.string a) := bc 4
  have x5 : w2.cell? ⟨g, 5, none⟩ = some (.string t) := bc 5
  have HB2 := Lib.hid b2
  clear bc b2
  go_wp2_with fail
  refine (H4.out _).mono ?_
  rintro e w3 ⟨rfl, k3⟩
  have k4 := k1.trans k3
  have b3 := Blk.kept HB2.out k3
  have hg3 : g < w3.heap.size := by have := k3.size; omega
  clear HB2 x0 x1 x2 x3 x4 x5 k0 k1 k3 H1 H2 H3 H4 HF
  have hlx : Lx w g w3.heap.size S #[.int .i64 (st.k : Int), .slice A m c, .slice B n d, .int .i64 (st.n : Int), .string a, .string t] 37 (w3.iter S 0) 0 :=
    ⟨b3.alloc _, World.iter_heap w3 S 0, k4.alloc _, k4.size, by omega⟩
  clear b3
  go_wp2_with fail
  generalize w3.iter S 0 = w4 at hlx ⊢
  obtain ⟨it, hit⟩ : ∃ it, w3.heap.size = it := ⟨_, rfl⟩
  rw [hit] at hlx ⊢
  have HL0 := Lib.hid hlx
  have HO0 : Hid (W.toList = wordOf st.k ++ fieldsT st (sg.take 0)) := by
    unfold Hid
    rw [HWL.out]
    show _ = _ ++ []
    rw [List.append_nil]
  clear hlx hit hgg
  go_loopw [6] (fun o wr => ∃ (pos : Nat) (O : ByteArray), pos ≤ S.size ∧ o = .string O ∧ Hid (Lx w g it S #[.int .i64 (st.k : Int), .slice A m c, .slice B n d, .int .i64 (st.n : Int), .string a, .string t] 37 wr pos) ∧ Hid (O.toList = wordOf st.k ++ fieldsT st (sg.take pos)) ∧ O.size ≤ 10 + 10003 * pos) (fun _ wr => S.size - wr.iterPos it)
  case atStart => exact ⟨0, W, Nat.zero_le _, rfl, HL0, HO0, by omega⟩
  case round =>
    clear HL0 HO0
    obtain ⟨pos, O, hps, rfl, HL, HO, hOs⟩ := hrel
    have hit := HL.out.hit
    by_cases hp : pos < S.size
    · have HMU : Hid (wr.iterPos it = pos) := iterPos_of hit
      obtain ⟨b, hb⟩ : ∃ b, S[pos]'hp = b := ⟨_, rfl⟩
      have hget : sg[pos]? = some b := by
        rw [← HSL.out, bytes_get hp, hb]
      have hsc : signB b = true := List.all_eq_true.1 HSG.out b (List.mem_of_getElem? hget)
      have hc128 : b.toNat < 128 := by
        unfold signB at hsc
        simp at hsc
        rcases hsc with (((h | h) | h) | h) | h <;> rw [h] <;> decide
      have h128 : (S[pos]'hp).toNat < 128 := by rw [hb]; exact hc128
      have hnext : ∀ ty, (Instr.next (.pointer (some ⟨it, 0, none⟩)) true ty).run Tryd.prog wr = _ := fun ty => Lib.run_next_ascii_at wr it S pos ty hit hp h128
      have HL1 := Lib.hid (HL.out.next (pos + 1))
      generalize wr.iterAt it S (pos + 1) = W1 at hnext HL1
      rw [hb] at hnext
      have HNX : Hid (∀ T : ByteArray, T.toList = pieceF st b → (O ++ ⟨#[32]⟩ ++ T).toList = wordOf st.k ++ fieldsT st (sg.take (pos + 1))) := by
        intro T hT
        rw [toList_app, toList_app, HO.out, hT, fields_take hget, ByteArray.toList_eq ⟨#[32]⟩]
        simp
      have hcs : b = 112 ∨ b = 113 ∨ b = 110 ∨ b = 97 ∨ b = 116 := by
        unfold signB at hsc
        simp at hsc
        rcases hsc with (((h | h) | h) | h) | h <;> simp [h]
      clear hget hsc h128 hb hit hc128 HO
      rcases hcs with rfl | rfl | rfl | rfl | rfl
      · have hC : ((112 : UInt8).toNat : Int) = 112 := rfl
        rw [hC] at hnext
        clear hC
        have x1 : W1.cell? ⟨g, 1, none⟩ = some (.slice A m c) := Blk.cell HL1.out.bo 1
        obtain ⟨T, hT⟩ : ∃ T, strB (pieceF st 112) = T := ⟨_, rfl⟩
        have hTs : T.size ≤ 10002 := by rw [← hT, strB_size]; exact HPL.out 112
        have HTL : Hid (T.toList = pieceF st 112) := by unfold Hid; rw [← hT, strB_list]
        have HC : Hid (Calls Tryd.prog 35 #[.slice A m c] W1 fun e w' => e = .returned (.string T) ∧ Kept W1 w') := by
          have := pprint_any A m c st.p W1 (HPA.out.kept HL1.out.kp) HOK.out.1 HB.out.1
          rw [show pathT st.p = pieceF st 112 from rfl, hT] at this
          exact this
        clear hT
        go_wp2_with fail
        refine HC.out.mono ?_
        rintro e w2 ⟨rfl, k2⟩
        have HL2 := Lib.hid (HL1.out.kept k2)
        have HO2 : Hid ((O ++ ⟨#[32]⟩ ++ T).toList = wordOf st.k ++ fieldsT st (sg.take (pos + 1))) := HNX.out T HTL.out
        have hO2 : (O ++ ⟨#[32]⟩ ++ T).size ≤ 10 + 10003 * (pos + 1) := by
          rw [ByteArray.size_append, ByteArray.size_append, show (⟨#[32]⟩ : ByteArray).size = 1 from rfl]
          omega
        go_wp2_with fail
        go_roundw
        case rel => exact ⟨pos + 1, _, hp, rfl, HL2, HO2, hO2⟩
        case measure =>
          have e1 : wr.iterPos it = pos := HMU.out
          have e2 : w2.iterPos it = pos + 1 := iterPos_of HL2.out.hit
          rw [e1, e2]
          omega
      · have hC : ((113 : UInt8).toNat : Int) = 113 := rfl
        rw [hC] at hnext
        clear hC
        have x2 : W1.cell? ⟨g, 2, none⟩ = some (.slice B n d) := Blk.cell HL1.out.bo 2
        obtain ⟨T, hT⟩ : ∃ T, strB (pieceF st 113) = T := ⟨_, rfl⟩
        have hTs : T.size ≤ 10002 := by rw [← hT, strB_size]; exact HPL.out 113
        have HTL : Hid (T.toList = pieceF st 113) := by unfold Hid; rw [← hT, strB_list]
        have HC : Hid (Calls Tryd.prog 35 #[.slice B n d] W1 fun e w' => e = .returned (.string T) ∧ Kept W1 w') := by
          have := pprint_any B n d st.q W1 (HQA.out.kept HL1.out.kp) HOK.out.2.1 HB.out.2.1
          rw [show pathT st.q = pieceF st 113 from rfl, hT] at this
          exact this
        clear hT
        go_wp2_with fail
        refine HC.out.mono ?_
        rintro e w2 ⟨rfl, k2⟩
        have HL2 := Lib.hid (HL1.out.kept k2)
        have HO2 : Hid ((O ++ ⟨#[32]⟩ ++ T).toList = wordOf st.k ++ fieldsT st (sg.take (pos + 1))) := HNX.out T HTL.out
        have hO2 : (O ++ ⟨#[32]⟩ ++ T).size ≤ 10 + 10003 * (pos + 1) := by
          rw [ByteArray.size_append, ByteArray.size_append, show (⟨#[32]⟩ : ByteArray).size = 1 from rfl]
          omega
        go_wp2_with fail
        go_roundw
        case rel => exact ⟨pos + 1, _, hp, rfl, HL2, HO2, hO2⟩
        case measure =>
          have e1 : wr.iterPos it = pos := HMU.out
          have e2 : w2.iterPos it = pos + 1 := iterPos_of HL2.out.hit
          rw [e1, e2]
          omega
      · have hC : ((110 : UInt8).toNat : Int) = 110 := rfl
        rw [hC] at hnext
        clear hC
        have x3 : W1.cell? ⟨g, 3, none⟩ = some (.int .i64 (st.n : Int)) := Blk.cell HL1.out.bo 3
        obtain ⟨T, hT⟩ : ∃ T, strB (pieceF st 110) = T := ⟨_, rfl⟩
        have hTs : T.size ≤ 10002 := by rw [← hT, strB_size]; exact HPL.out 110
        have HTL : Hid (T.toList = pieceF st 110) := by unfold Hid; rw [← hT, strB_list]
        have HC : Hid (Calls Tryd.prog 35 #[.slice (some ⟨W1.heap.size, 0, none⟩) 1 1] (W1.alloc (.cells #[.int .i64 (st.n : Int)] 3)) fun e w' => e = .returned (.string T) ∧ Kept W1 w') := by
          have := pprint_any (some ⟨W1.heap.size, 0, none⟩) 1 1 [st.n] (W1.alloc (.cells #[.int .i64 (st.n : Int)] 3)) (Sl.lit1 (cs := [natV st.n]) rfl rfl (by omega)) (by have := HOK.out.2.2; simpa using this) (by omega)
          rw [show pathT [st.n] = pieceF st 110 from rfl, hT] at this
          exact this.mono fun e w' h => ⟨h.1, ((Kept.refl W1).alloc _).trans h.2⟩
        clear hT
        go_wp2_with fail
        refine HC.out.mono ?_
        rintro e w2 ⟨rfl, k2⟩
        have HL2 := Lib.hid (HL1.out.kept k2)
        have HO2 : Hid ((O ++ ⟨#[32]⟩ ++ T).toList = wordOf st.k ++ fieldsT st (sg.take (pos + 1))) := HNX.out T HTL.out
        have hO2 : (O ++ ⟨#[32]⟩ ++ T).size ≤ 10 + 10003 * (pos + 1) := by
          rw [ByteArray.size_append, ByteArray.size_append, show (⟨#[32]⟩ : ByteArray).size = 1 from rfl]
          omega
        go_wp2_with fail
        go_roundw
        case rel => exact ⟨pos + 1, _, hp, rfl, HL2, HO2, hO2⟩
        case measure =>
          have e1 : wr.iterPos it = pos := HMU.out
          have e2 : w2.iterPos it = pos + 1 := iterPos_of HL2.out.hit
          rw [e1, e2]
          omega
      · have hC : ((97 : UInt8).toNat : Int) = 97 := rfl
        rw [hC] at hnext
        clear hC
        have x4 : W1.cell? ⟨g, 4, none⟩ = some (.string a) := Blk.cell HL1.out.bo 4
        obtain ⟨T, hT⟩ : ∃ T, strB (pieceF st 97) = T := ⟨_, rfl⟩
        have hTs : T.size ≤ 10002 := by rw [← hT, strB_size]; exact HPL.out 97
        have HTL : Hid (T.toList = pieceF st 97) := by unfold Hid; rw [← hT, strB_list]
        have HC : Hid (Calls Tryd.prog 14 #[.string a] W1 fun e w' => e = .returned (.string T) ∧ Kept W1 w') := by
          have := quoted_any a W1 HB.out.2.2.1
          rw [HAT.out.1, show quotedF st.a = pieceF st 97 from rfl, hT] at this
          exact this
        clear hT
        go_wp2_with fail
        refine HC.out.mono ?_
        rintro e w2 ⟨rfl, k2⟩
        have HL2 := Lib.hid (HL1.out.kept k2)
        have HO2 : Hid ((O ++ ⟨#[32]⟩ ++ T).toList = wordOf st.k ++ fieldsT st (sg.take (pos + 1))) := HNX.out T HTL.out
        have hO2 : (O ++ ⟨#[32]⟩ ++ T).size ≤ 10 + 10003 * (pos + 1) := by
          rw [ByteArray.size_append, ByteArray.size_append, show (⟨#[32]⟩ : ByteArray).size = 1 from rfl]
          omega
        go_wp2_with fail
        go_roundw
        case rel => exact ⟨pos + 1, _, hp, rfl, HL2, HO2, hO2⟩
        case measure =>
          have e1 : wr.iterPos it = pos := HMU.out
          have e2 : w2.iterPos it = pos + 1 := iterPos_of HL2.out.hit
          rw [e1, e2]
          omega
      · have hC : ((116 : UInt8).toNat : Int) = 116 := rfl
        rw [hC] at hnext
        clear hC
        have x5 : W1.cell? ⟨g, 5, none⟩ = some (.string t) := Blk.cell HL1.out.bo 5
        obtain ⟨T, hT⟩ : ∃ T, strB (pieceF st 116) = T := ⟨_, rfl⟩
        have hTs : T.size ≤ 10002 := by rw [← hT, strB_size]; exact HPL.out 116
        have HTL : Hid (T.toList = pieceF st 116) := by unfold Hid; rw [← hT, strB_list]
        have HC : Hid (Calls Tryd.prog 14 #[.string t] W1 fun e w' => e = .returned (.string T) ∧ Kept W1 w') := by
          have := quoted_any t W1 HB.out.2.2.2
          rw [HAT.out.2, show quotedF st.t = pieceF st 116 from rfl, hT] at this
          exact this
        clear hT
        go_wp2_with fail
        refine HC.out.mono ?_
        rintro e w2 ⟨rfl, k2⟩
        have HL2 := Lib.hid (HL1.out.kept k2)
        have HO2 : Hid ((O ++ ⟨#[32]⟩ ++ T).toList = wordOf st.k ++ fieldsT st (sg.take (pos + 1))) := HNX.out T HTL.out
        have hO2 : (O ++ ⟨#[32]⟩ ++ T).size ≤ 10 + 10003 * (pos + 1) := by
          rw [ByteArray.size_append, ByteArray.size_append, show (⟨#[32]⟩ : ByteArray).size = 1 from rfl]
          omega
        go_wp2_with fail
        go_roundw
        case rel => exact ⟨pos + 1, _, hp, rfl, HL2, HO2, hO2⟩
        case measure =>
          have e1 : wr.iterPos it = pos := HMU.out
          have e2 : w2.iterPos it = pos + 1 := iterPos_of HL2.out.hit
          rw [e1, e2]
          omega
    · have hpe : pos = S.size := by omega
      have HE : Hid (O = strB (wordOf st.k ++ fieldsT st sg)) := by
        unfold Hid
        apply cstr_eq
        rw [strB_list, HO.out, List.take_of_length_le (by rw [← HSL.out, bytes_len]; omega)]
      subst hpe
      have hnext : ∀ ty, (Instr.next (.pointer (some ⟨it, 0, none⟩)) true ty).run Tryd.prog wr = _ := fun ty => Lib.run_next_end_at wr it S S.size ty hit hp
      have hk := HL.out.kp
      clear hit HO
      go_wp2_with fail
      refine bodyPost_ret (v := lineV true (wordOf st.k ++ fieldsT st sg)) (by simp [results, Tryd.results17, go_sem, lineV, HE.out]) rfl ⟨rfl, hk⟩
end Go.Proofs.YtmcmicgdkdbgjaaDoor
