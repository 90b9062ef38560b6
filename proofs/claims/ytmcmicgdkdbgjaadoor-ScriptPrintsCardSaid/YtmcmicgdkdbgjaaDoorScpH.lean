/- A step as a line: script.Line of any step, walked (printed by wip/gen/gen_scph.py). -/
import Derived.Test.YtmcmicgdkdbgjaaDoorScpG
namespace Go.Proofs.YtmcmicgdkdbgjaaDoor
open Go.RowKit
attribute [local go_sem ↓] Go.wp_at_zero Go.wp_at_succ

theorem rest_val (kk : Nat) (h9 : kk ≤ 9) (A : Option Addr) (m c : Nat) (B : Option Addr) (n d : Nat) (q : List Int) (hq : q.length = n) (N : Int) (a t : ByteArray) (w : World) :
    Calls Tryd.prog 34 #[.agg #[.int .i64 (kk : Int), .slice A m c, .slice B n d, .int .i64 N, .string a, .string t], .string (strB (signOf kk))] w fun e w' => e = .returned (.bool (restF (signOf kk) (q.length == 0) (N == 0) (a.toList == []) (t.toList == []))) ∧ Kept w w' := by
  have hf := has_fin ⟨kk, by omega⟩
  dsimp only at hf
  have hd : (strB (signOf kk)).data.toList = signOf kk := rfl
  have := rest_any (kk : Int) A m c B n d N a t (strB (signOf kk)) (hasC (signOf kk) 113) (hasC (signOf kk) 110) (hasC (signOf kk) 97) (hasC (signOf kk) 116) _ _ _ _ w hf.1 hf.2.1 hf.2.2.1 hf.2.2.2 rfl rfl rfl (by cases a.toList <;> rfl) rfl (by cases t.toList <;> rfl)
  have q1 : ((n : Int) == 0) = (q.length == 0) := by
    rw [hq, Bool.eq_iff_iff]
    simp
  rw [q1] at this
  exact this
set_option maxRecDepth 100000 in
set_option maxHeartbeats 16000000 in
theorem line_no (k : Int) (A : Option Addr) (m c : Nat) (p : List Int) (B : Option Addr) (n d : Nat) (q : List Int) (N : Int) (a t : ByteArray) (w : World) (hA : Sl w 1 A m c (p.map intV)) (hB : Sl w 1 B n d (q.map intV)) (h : mayO k p q N a.toList t.toList = false) :
    Calls Tryd.prog 17 #[.agg #[.int .i64 k, .slice A m c, .slice B n d, .int .i64 N, .string a, .string t]] w fun e w' => e = .returned (lineV false []) ∧ Kept w w' := by
  have hql : q.length = n := by simpa using hB.llen1
  have H1 := Lib.hid (fun w' (kw : Kept w w') => may_any A m c p w' (hA.kept kw))
  have H2 := Lib.hid (fun w' (kw : Kept w w') => may_any B n d q w' (hB.kept kw))
  have H3 : Hid (∀ w' : World, Calls Tryd.prog 33 #[.slice (some ⟨w'.heap.size, 0, none⟩) 1 1] (w'.alloc (.cells #[.int .i64 N] 3)) fun e w'' => e = .returned (.bool (okN N)) ∧ w'.alloc (.cells #[.int .i64 N] 3) = w'') := fun w' => by
    have := may_any (some ⟨w'.heap.size, 0, none⟩) 1 1 [N] (w'.alloc (.cells #[.int .i64 N] 3)) (Sl.lit1 (cs := [intV N]) rfl rfl (by omega))
    rw [show mayL [N] = okN N from Bool.and_true _] at this
    exact this
  clear hA hB
  have k0 : Kept w _ := (Kept.refl w).alloc (.cells #[.int .i64 k, .slice A m c, .slice B n d, .int .i64 N, .string a, .string t] 37)
  have b1 := Blk.new w #[.int .i64 k, .slice A m c, .slice B n d, .int .i64 N, .string a, .string t] 37
  by_cases hk : 1 ≤ k ∧ k ≤ 9
  case neg =>
    have HF := Lib.hid (form_none k hk)
    go_enter Tryd.func17, Tryd.ntmps17
    go_upto_region 1 with fail
    generalize w.alloc (.cells #[.int .i64 k, .slice A m c, .slice B n d, .int .i64 N, .string a, .string t] 37) = w1 at k0 b1 ⊢
    have x0 : w1.cell? ⟨w.heap.size, 0, none⟩ = some (.int .i64 k) := Blk.cell b1 0
    clear h hk H1 H2 H3 b1 hql
    go_wp2_with fail
    refine (HF.out _).mono ?_
    rintro e w2 ⟨rfl, rfl⟩
    go_wp2_with fail
    refine bodyPost_ret (v := lineV false []) (by simp [results, Tryd.results17, go_sem, lineV]) rfl ⟨rfl, k0⟩
  obtain ⟨kk, hkk⟩ : ∃ kk : Nat, k = (kk : Int) := ⟨k.toNat, by omega⟩
  subst hkk
  have h9 : kk ≤ 9 := by omega
  have HF := Lib.hid (form_any kk (by omega) h9)
  have H4 := Lib.hid (rest_val kk h9 A m c B n d q hql N a t)
  have hh : Hid ((mayL p && (mayL q && (okN N && restF (signOf kk) (q.length == 0) (N == 0) (a.toList == []) (t.toList == [])))) = false) := by
    unfold mayO at h
    rw [decide_eq_true hk, Bool.true_and] at h
    exact h
  have hne := word_ne ⟨kk, by omega⟩ (by show 1 ≤ kk; omega)
  dsimp only at hne
  have hW2 : (strB (wordOf kk)).toList = wordOf kk := strB_list _
  obtain ⟨W, hW⟩ : ∃ W, strB (wordOf kk) = W := ⟨_, rfl⟩
  obtain ⟨S, hS⟩ : ∃ S, strB (signOf kk) = S := ⟨_, rfl⟩
  rw [hW, hS] at HF
  rw [hS] at H4
  rw [hW] at hW2
  have e1 : (W.toList == []) = false := by rw [hW2]; simpa using hne
  have e2 : W.toList.isEmpty = false := by rw [hW2]; simpa using hne
  obtain ⟨v1, hv1⟩ : ∃ v, mayL p = v := ⟨_, rfl⟩
  obtain ⟨v2, hv2⟩ : ∃ v, mayL q = v := ⟨_, rfl⟩
  obtain ⟨v3, hv3⟩ : ∃ v, okN N = v := ⟨_, rfl⟩
  obtain ⟨v4, hv4⟩ : ∃ v, restF (signOf kk) (q.length == 0) (N == 0) (a.toList == []) (t.toList == []) = v := ⟨_, rfl⟩
  rw [hv1] at H1 hh
  rw [hv2] at H2 hh
  rw [hv3] at H3 hh
  rw [hv4] at H4 hh
  clear hv1 hv2 hv3 hv4 hS hW hW2 hne h hk h9 hql
  go_enter Tryd.func17, Tryd.ntmps17
  go_upto_region 1 with fail
  generalize w.alloc (.cells #[.int .i64 (kk : Int), .slice A m c, .slice B n d, .int .i64 N, .string a, .string t] 37) = w1 at k0 b1 ⊢
  obtain ⟨g, hgg⟩ : ∃ g, w.heap.size = g := ⟨_, rfl⟩
  rw [hgg] at b1 ⊢
  clear hgg
  have HB1 := Lib.hid b1
  have bc := Blk.cell b1
  have x0 : w1.cell? ⟨g, 0, none⟩ = some (.int .i64 (kk : Int)) := bc 0
  have x1 : w1.cell? ⟨g, 1, none⟩ = some (.slice A m c) := bc 1
  have x2 : w1.cell? ⟨g, 2, none⟩ = some (.slice B n d) := bc 2
  have x3 : w1.cell? ⟨g, 3, none⟩ = some (.int .i64 N) := bc 3
  clear bc b1
  go_wp2_with fail
  refine (HF.out _).mono ?_
  rintro e w2 ⟨rfl, rfl⟩
  go_wp2_with fail
  refine (H1.out _ k0).mono ?_
  rintro e w2 ⟨rfl, rfl⟩
  cases v1
  case false =>
    go_wp2_with fail
    refine bodyPost_ret (v := lineV false []) (by simp [results, Tryd.results17, go_sem, lineV]) rfl ⟨rfl, k0⟩
  go_wp2_with fail
  refine (H2.out _ k0).mono ?_
  rintro e w2 ⟨rfl, rfl⟩
  cases v2
  case false =>
    go_wp2_with fail
    refine bodyPost_ret (v := lineV false []) (by simp [results, Tryd.results17, go_sem, lineV]) rfl ⟨rfl, k0⟩
  go_wp2_with fail
  refine (H3.out _).mono ?_
  rintro e w2 ⟨rfl, rfl⟩
  have k1 := k0.alloc (.cells #[.int .i64 N] 3)
  have b2 := (HB1.out).alloc (.cells #[.int .i64 N] 3)
  clear HB1 x0 x1 x2 x3
  generalize w1.alloc (.cells #[.int .i64 N] 3) = w2 at k1 b2 ⊢
  have bc := Blk.cell b2
  have x0 : w2.cell? ⟨g, 0, none⟩ = some (.int .i64 (kk : Int)) := bc 0
  have x1 : w2.cell? ⟨g, 1, none⟩ = some (.slice A m c) := bc 1
  have x2 : w2.cell? ⟨g, 2, none⟩ = some (.slice B n d) := bc 2
  have x3 : w2.cell? ⟨g, 3, none⟩ = some (.int .i64 N) := bc 3
  have x4 : w2.cell? ⟨g, 4, none⟩ = some (.string a) := bc 4
  have x5 : w2.cell? ⟨g, 5, none⟩ = some (.string t) := bc 5
  clear bc b2
  cases v3
  case false =>
    go_wp2_with fail
    refine bodyPost_ret (v := lineV false []) (by simp [results, Tryd.results17, go_sem, lineV]) rfl ⟨rfl, k1⟩
  go_wp2_with fail
  refine (H4.out _).mono ?_
  rintro e w3 ⟨rfl, k3⟩
  have k4 := k1.trans k3
  cases v4
  case false =>
    go_wp2_with fail
    refine bodyPost_ret (v := lineV false []) (by simp [results, Tryd.results17, go_sem, lineV]) rfl ⟨rfl, k4⟩
  exact absurd hh.out (by decide)
/-- A step of whole numbers as one that may be said. -/
def stO (k : Int) (p q : List Int) (N : Int) (a t : Bs) : St := ⟨k.toNat, p.map Int.toNat, q.map Int.toNat, N.toNat, a, t⟩
theorem may_split {k : Int} {p q : List Int} {N : Int} {a t : Bs} (h : mayO k p q N a t = true) : ∃ st : St, stO k p q N a t = st ∧ k = (st.k : Int) ∧ p = st.p.map (fun n : Nat => (n : Int)) ∧ q = st.q.map (fun n : Nat => (n : Int)) ∧ N = (st.n : Int) ∧ a = st.a ∧ t = st.t ∧ st.may := by
  unfold mayO at h
  rw [Bool.and_eq_true, Bool.and_eq_true, Bool.and_eq_true, Bool.and_eq_true, decide_eq_true_eq] at h
  obtain ⟨hk, h1, h2, h3, h4⟩ := h
  obtain ⟨p', rfl, hp⟩ := may_nat h1
  obtain ⟨q', rfl, hq⟩ := may_nat h2
  unfold okN at h3
  rw [decide_eq_true_eq] at h3
  obtain ⟨kk, rfl⟩ : ∃ kk : Nat, k = (kk : Int) := ⟨k.toNat, by omega⟩
  obtain ⟨nn, rfl⟩ : ∃ nn : Nat, N = (nn : Int) := ⟨N.toNat, by omega⟩
  refine ⟨⟨kk, p', q', nn, a, t⟩, ?_, rfl, rfl, rfl, rfl, rfl, rfl, ?_⟩
  · unfold stO
    rw [map_back, map_back]
    rfl
  · refine ⟨by show 1 ≤ kk; omega, by show kk ≤ 9; omega, ⟨hp, hq, by show nn < 1000000000; omega⟩, ?_⟩
    show restF (signOf kk) q'.isEmpty (nn == 0) a.isEmpty t.isEmpty = true
    have q1 : ((q'.map fun n : Nat => (n : Int)).length == 0) = q'.isEmpty := by cases q' <;> simp
    have q2 : ((nn : Int) == 0) = (nn == 0) := by rw [Bool.eq_iff_iff]; simp
    have q3 : (a == []) = a.isEmpty := by cases a <;> rfl
    have q4 : (t == []) = t.isEmpty := by cases t <;> rfl
    rw [q1, q2, q3, q4] at h4
    exact h4
theorem line_any (k : Int) (A : Option Addr) (m c : Nat) (p : List Int) (B : Option Addr) (n d : Nat) (q : List Int) (N : Int) (a t : ByteArray) (w : World) (hA : Sl w 1 A m c (p.map intV)) (hB : Sl w 1 B n d (q.map intV)) (hm : m ≤ 1000) (hn : n ≤ 1000) (has : a.size ≤ 1000) (hts : t.size ≤ 1000) :
    Calls Tryd.prog 17 #[.agg #[.int .i64 k, .slice A m c, .slice B n d, .int .i64 N, .string a, .string t]] w fun e w' => e = .returned (lineV (mayO k p q N a.toList t.toList) (lineF (stO k p q N a.toList t.toList))) ∧ Kept w w' := by
  cases h : mayO k p q N a.toList t.toList with
  | false => exact line_no k A m c p B n d q N a t w hA hB h
  | true =>
    obtain ⟨st, e0, rfl, rfl, rfl, rfl, ea, et, h1, h9, hok, hr⟩ := may_split h
    rw [e0]
    rw [nat_vals] at hA hB
    exact line_tail st A m c B n d a t w h1 h9 hok hA hB hm hn has hts ⟨ea, et⟩ hr
end Go.Proofs.YtmcmicgdkdbgjaaDoor
