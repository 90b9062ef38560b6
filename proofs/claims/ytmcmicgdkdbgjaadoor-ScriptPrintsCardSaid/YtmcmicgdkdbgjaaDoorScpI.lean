/- Can a step be said: the document's has and May, walked (printed by wip/gen/gen_scpi.py). -/
import Derived.Test.YtmcmicgdkdbgjaaDoorScpG
import Derived.Test.YtmcmicgdkdbgjaaDoorScrO
namespace Go.Proofs.YtmcmicgdkdbgjaaDoor
open Go.RowKit
attribute [local go_sem ↓] Go.wp_at_zero Go.wp_at_succ

theorem has_take {l : Bs} {k : Nat} {b c : UInt8} (h : hasC (l.take k) c = false) (hb : l[k]? = some b) (hne : b ≠ c) : hasC (l.take (k + 1)) c = false := by
  unfold hasC at h ⊢
  rw [List.take_add_one, hb]
  simp at h ⊢
  exact ⟨h, fun e => hne e.symm⟩
theorem has_hit {l : Bs} {k : Nat} {c : UInt8} (hb : l[k]? = some c) : hasC l c = true := by
  unfold hasC
  simp
  exact List.mem_of_getElem? hb
set_option maxHeartbeats 2000000 in
theorem dhas_any (s : ByteArray) (c : UInt8) (w : World) (hs : s.size ≤ 1000) : Calls Tryd.prog 38 #[.string s, .int .u8 (c.toNat : Int)] w fun e w' => e = .returned (.bool (hasC s.toList c)) ∧ w = w' := by
  obtain ⟨z, hz⟩ : ∃ z, hasC s.toList c = z := ⟨_, rfl⟩
  rw [hz]
  have HZ := Lib.hid hz
  have HL := Lib.hid (bytes_len s)
  clear hz
  go_enter Tryd.func38, Tryd.ntmps38
  go_wp2_with fail
  go_loopw [5] (fun v wr => ∃ k : Nat, k ≤ s.size ∧ v = .int .i64 k ∧ Hid (hasC (s.toList.take k) c = false) ∧ w = wr) (fun v _ => s.size - (intOf v).toNat)
  case atStart => exact ⟨0, Nat.zero_le _, rfl, rfl, rfl⟩
  case round =>
    obtain ⟨k, hk, rfl, HK, rfl⟩ := hrel
    by_cases hlt : k < s.size
    · have l1 : (k : Int) < s.size := by omega
      have l2 : (0 : Int) ≤ k := by omega
      have s1 : IntKind.i64.wrap ((k : Int) + 1) = (k : Int) + 1 := IntWalk.i64_in _ (by omega)
      obtain ⟨b, hb⟩ : ∃ b, s[k]'hlt = b := ⟨_, rfl⟩
      have hget : s.toList[k]? = some b := by rw [bytes_get hlt, hb]
      by_cases h : b = c
      · have d1 : ((b.toNat : Int) == (c.toNat : Int)) = true := by rw [h]; simp
        have HE : Hid (z = true) := by rw [← HZ.out]; exact has_hit (by rw [hget, h])
        clear hget h
        go_wp2_with fail
        go_ret
        exact ⟨by rw [HE.out]; rfl, rfl⟩
      · have d1 : ((b.toNat : Int) == (c.toNat : Int)) = false := by
          rw [Bool.eq_false_iff]
          intro e
          have := beq_iff_eq.1 e
          exact h (UInt8.toNat_inj.1 (by omega))
        have HN : Hid (hasC (s.toList.take (k + 1)) c = false) := has_take HK.out hget h
        clear hget h
        go_wp2_with fail
        go_roundw
        case rel => exact ⟨k + 1, hlt, by go_num, HN, by trivial⟩
        case measure =>
          simp [intOf]
          omega
    · have HE : Hid (z = false) := by
        rw [← HZ.out, ← HK.out, List.take_of_length_le (by rw [HL.out]; omega)]
        rfl
      have l1 : ¬ (k : Int) < s.size := by omega
      go_wp2_with fail
      go_ret
      exact ⟨by rw [HE.out]; rfl, rfl⟩
set_option maxRecDepth 100000 in
set_option maxHeartbeats 16000000 in
theorem dmay_any (k : Int) (A : Option Addr) (m c : Nat) (p : List Int) (B : Option Addr) (n d : Nat) (q : List Int) (N : Int) (a t : ByteArray) (w : World) (hA : Sl w 1 A m c (p.map intV)) (hB : Sl w 1 B n d (q.map intV)) :
    Calls Tryd.prog 19 #[.agg #[.int .i64 k, .slice A m c, .slice B n d, .int .i64 N, .string a, .string t]] w fun e w' => e = .returned (.bool (mayO k p q N a.toList t.toList)) ∧ Kept w w' := by
  have hql : q.length = n := by simpa using hB.llen1
  have H1 := Lib.hid (fun w' (kw : Kept w w') => numbers_any A m c p w' (hA.kept kw))
  have H2 := Lib.hid (fun w' (kw : Kept w w') => numbers_any B n d q w' (hB.kept kw))
  have HM : Hid (mayO k p q N a.toList t.toList = (decide (1 ≤ k ∧ k ≤ 9) && (mayL p && (mayL q && (okN N && restF (signOf k.toNat) (q.length == 0) (N == 0) (a.toList == []) (t.toList == [])))))) := rfl
  obtain ⟨z, hz⟩ : ∃ z, mayO k p q N a.toList t.toList = z := ⟨_, rfl⟩
  rw [hz] at HM ⊢
  obtain ⟨v1, hv1⟩ : ∃ v, mayL p = v := ⟨_, rfl⟩
  obtain ⟨v2, hv2⟩ : ∃ v, mayL q = v := ⟨_, rfl⟩
  rw [hv1] at H1 HM
  rw [hv2] at H2 HM
  clear hz hv1 hv2 hA hB
  have k0 : Kept w _ := (Kept.refl w).alloc (.cells #[.int .i64 k, .slice A m c, .slice B n d, .int .i64 N, .string a, .string t] 38)
  have b1 := Blk.new w #[.int .i64 k, .slice A m c, .slice B n d, .int .i64 N, .string a, .string t] 38
  go_enter Tryd.func19, Tryd.ntmps19
  go_upto_region 1 with fail
  generalize w.alloc (.cells #[.int .i64 k, .slice A m c, .slice B n d, .int .i64 N, .string a, .string t] 38) = w1 at k0 b1 ⊢
  obtain ⟨g, hgg⟩ : ∃ g, w.heap.size = g := ⟨_, rfl⟩
  rw [hgg] at b1 ⊢
  clear hgg
  have HB1 := Lib.hid b1
  have bc := Blk.cell b1
  have x0 : w1.cell? ⟨g, 0, none⟩ = some (.int .i64 k) := bc 0
  have x1 : w1.cell? ⟨g, 1, none⟩ = some (.slice A m c) := bc 1
  have x2 : w1.cell? ⟨g, 2, none⟩ = some (.slice B n d) := bc 2
  have x3 : w1.cell? ⟨g, 3, none⟩ = some (.int .i64 N) := bc 3
  clear bc b1
  by_cases c1 : k < 1
  · have HZ : Hid (z = false) := by
      have h := HM.out
      rwa [show decide (1 ≤ k ∧ k ≤ 9) = false by simp; omega] at h
    go_wp2_with fail
    go_ret
    exact ⟨by rw [HZ.out]; rfl, k0⟩
  by_cases c2 : 9 < k
  · have HZ : Hid (z = false) := by
      have h := HM.out
      rwa [show decide (1 ≤ k ∧ k ≤ 9) = false by simp; omega] at h
    go_wp2_with fail
    go_ret
    exact ⟨by rw [HZ.out]; rfl, k0⟩
  have HM2 : Hid (z = (v1 && (v2 && (okN N && restF (signOf k.toNat) (q.length == 0) (N == 0) (a.toList == []) (t.toList == []))))) := by
    have h := HM.out
    rwa [show decide (1 ≤ k ∧ k ≤ 9) = true by simp; omega, Bool.true_and] at h
  clear HM
  go_wp2_with fail
  refine (H1.out _ k0).mono ?_
  rintro e w2 ⟨rfl, rfl⟩
  cases v1
  · have HZ : Hid (z = false) := HM2.out
    go_wp2_with fail
    go_ret
    exact ⟨by rw [HZ.out]; rfl, k0⟩
  have HM3 : Hid (z = (v2 && (okN N && restF (signOf k.toNat) (q.length == 0) (N == 0) (a.toList == []) (t.toList == [])))) := by
    have h := HM2.out
    rwa [Bool.true_and] at h
  clear HM2
  go_wp2_with fail
  refine (H2.out _ k0).mono ?_
  rintro e w2 ⟨rfl, rfl⟩
  cases v2
  · have HZ : Hid (z = false) := HM3.out
    go_wp2_with fail
    go_ret
    exact ⟨by rw [HZ.out]; rfl, k0⟩
  have HM4 : Hid (z = (okN N && restF (signOf k.toNat) (q.length == 0) (N == 0) (a.toList == []) (t.toList == []))) := by
    have h := HM3.out
    rwa [Bool.true_and] at h
  clear HM3
  by_cases c3 : N < 0
  · have HZ : Hid (z = false) := by
      have h := HM4.out
      rwa [show okN N = false by unfold okN; simp; omega] at h
    go_wp2_with fail
    go_ret
    exact ⟨by rw [HZ.out]; rfl, k0⟩
  by_cases c4 : 999999999 < N
  · have HZ : Hid (z = false) := by
      have h := HM4.out
      rwa [show okN N = false by unfold okN; simp; omega] at h
    go_wp2_with fail
    go_ret
    exact ⟨by rw [HZ.out]; rfl, k0⟩
  obtain ⟨kk, hkk⟩ : ∃ kk : Nat, k = (kk : Int) := ⟨k.toNat, by omega⟩
  subst hkk
  have HM5 : Hid (z = restF (signOf kk) (q.length == 0) (N == 0) (a.toList == []) (t.toList == [])) := by
    have h := HM4.out
    rw [show okN N = true by unfold okN; simp; omega, Bool.true_and] at h
    exact h
  clear HM4
  have h9 : kk ≤ 9 := by omega
  have HSK := Lib.hid (signK_any kk h9)
  have p0 : (0 : Int) ≤ kk := by omega
  have p1 : (kk : Int) < 10 := by omega
  have hsl := (word_len ⟨kk, by omega⟩).2.1
  dsimp only at hsl
  go_upto_region 3 with fail
  clear H1 H2 x1 x2 x3
  go_cut [3] (fun v wx => v = .string (strB (signOf kk)) ∧ Kept w1 wx)
  case first =>
    go_region_with (first | (go_at_call 37; refine (HSK.out _).mono ?_; rintro e w5 ⟨g5, rfl, x5, k5⟩; have bc5 := k5.cell (show w1.drew.cell? ⟨g, 0, none⟩ = some (.int .i64 (kk : Int)) from x0)))
    all_goals
      go_wp2_with fail
      go_meet
      exact ⟨rfl, (Kept.refl w1).drew.trans k5⟩
  case rest =>
  obtain ⟨rfl, kc⟩ := hcut
  have kx := k0.trans kc
  have bc := Blk.cell (Blk.kept HB1.out kc)
  have y2 : wc.cell? ⟨g, 2, none⟩ = some (.slice B n d) := bc 2
  have y3 : wc.cell? ⟨g, 3, none⟩ = some (.int .i64 N) := bc 3
  have y4 : wc.cell? ⟨g, 4, none⟩ = some (.string a) := bc 4
  have y5 : wc.cell? ⟨g, 5, none⟩ = some (.string t) := bc 5
  clear bc HB1 x0
  obtain ⟨sg, hsg⟩ : ∃ sg, signOf kk = sg := ⟨_, rfl⟩
  rw [hsg] at HM5 hsl
  rw [hsg]
  obtain ⟨S, hS⟩ : ∃ S, strB sg = S := ⟨_, rfl⟩
  have hSl : S.toList = sg := by rw [← hS, strB_list]
  have hSz : S.size ≤ 1000 := by rw [← hS, strB_size]; omega
  rw [hS]
  have H0 := fun w => dhas_any S 113 w hSz
  have H1 := fun w => dhas_any S 110 w hSz
  have H2 := fun w => dhas_any S 97 w hSz
  have H3 := fun w => dhas_any S 116 w hSz
  rw [hSl] at H0 H1 H2 H3
  obtain ⟨q0, hq0⟩ : ∃ q0, ((n : Int) == 0) = q0 := ⟨_, rfl⟩
  obtain ⟨n0, hn0⟩ : ∃ n0, (N == 0) = n0 := ⟨_, rfl⟩
  obtain ⟨a0, ha0⟩ : ∃ a0, (a.toList == []) = a0 := ⟨_, rfl⟩
  obtain ⟨t0, ht0⟩ : ∃ t0, (t.toList == []) = t0 := ⟨_, rfl⟩
  have ha1 : a.toList.isEmpty = a0 := by rw [← ha0]; cases a.toList <;> rfl
  have ht1 : t.toList.isEmpty = t0 := by rw [← ht0]; cases t.toList <;> rfl
  have hqq : (q.length == 0) = q0 := by
    rw [← hq0, hql, Bool.eq_iff_iff]
    simp
  rw [hqq, hn0, ha0, ht0] at HM5
  obtain ⟨h3, hh3⟩ : ∃ h, hasC sg 113 = h := ⟨_, rfl⟩
  obtain ⟨h2, hh2⟩ : ∃ h, hasC sg 110 = h := ⟨_, rfl⟩
  obtain ⟨h1, hh1⟩ : ∃ h, hasC sg 97 = h := ⟨_, rfl⟩
  obtain ⟨h0, hh0⟩ : ∃ h, hasC sg 116 = h := ⟨_, rfl⟩
  unfold restF at HM5
  rw [hh3, hh2, hh1, hh0] at HM5
  rw [hh3] at H0
  rw [hh2] at H1
  rw [hh1] at H2
  rw [hh0] at H3
  have H0 := Lib.hid H0
  have H1 := Lib.hid H1
  have H2 := Lib.hid H2
  have H3 := Lib.hid H3
  clear hS hSl hsg hh3 hh2 hh1 hh0 hqq hql kc c1 c2 c3 c4 HSK hsl h9 hSz p0 p1 k0
  cases q0
  · go_wp2_with fail
    refine (H0.out _).mono ?_
    rintro e w2 ⟨rfl, rfl⟩
    cases h3
    · go_wp2_with fail
      go_ret
      exact ⟨by rw [HM5.out]; first | rfl | (simp; done) | (simp; rfl), kx⟩
    · cases n0
      · go_wp2_with fail
        refine (H1.out _).mono ?_
        rintro e w2 ⟨rfl, rfl⟩
        cases h2
        · go_wp2_with fail
          go_ret
          exact ⟨by rw [HM5.out]; first | rfl | (simp; done) | (simp; rfl), kx⟩
        · cases a0
          · go_wp2_with fail
            refine (H2.out _).mono ?_
            rintro e w2 ⟨rfl, rfl⟩
            cases h1
            · go_wp2_with fail
              go_ret
              exact ⟨by rw [HM5.out]; first | rfl | (simp; done) | (simp; rfl), kx⟩
            · cases t0
              · go_wp2_with fail
                refine (H3.out _).mono ?_
                rintro e w2 ⟨rfl, rfl⟩
                cases h0
                · go_wp2_with fail
                  go_ret
                  exact ⟨by rw [HM5.out]; first | rfl | (simp; done) | (simp; rfl), kx⟩
                · go_wp2_with fail
                  go_ret
                  exact ⟨by rw [HM5.out]; first | rfl | (simp; done) | (simp; rfl), kx⟩
              · go_wp2_with fail
                go_ret
                exact ⟨by rw [HM5.out]; first | rfl | (simp; done) | (simp; rfl), kx⟩
          · cases t0
            · go_wp2_with fail
              refine (H3.out _).mono ?_
              rintro e w2 ⟨rfl, rfl⟩
              cases h0
              · go_wp2_with fail
                go_ret
                exact ⟨by rw [HM5.out]; first | rfl | (simp; done) | (simp; rfl), kx⟩
              · go_wp2_with fail
                go_ret
                exact ⟨by rw [HM5.out]; first | rfl | (simp; done) | (simp; rfl), kx⟩
            · go_wp2_with fail
              go_ret
              exact ⟨by rw [HM5.out]; first | rfl | (simp; done) | (simp; rfl), kx⟩
      · cases a0
        · go_wp2_with fail
          refine (H2.out _).mono ?_
          rintro e w2 ⟨rfl, rfl⟩
          cases h1
          · go_wp2_with fail
            go_ret
            exact ⟨by rw [HM5.out]; first | rfl | (simp; done) | (simp; rfl), kx⟩
          · cases t0
            · go_wp2_with fail
              refine (H3.out _).mono ?_
              rintro e w2 ⟨rfl, rfl⟩
              cases h0
              · go_wp2_with fail
                go_ret
                exact ⟨by rw [HM5.out]; first | rfl | (simp; done) | (simp; rfl), kx⟩
              · go_wp2_with fail
                go_ret
                exact ⟨by rw [HM5.out]; first | rfl | (simp; done) | (simp; rfl), kx⟩
            · go_wp2_with fail
              go_ret
              exact ⟨by rw [HM5.out]; first | rfl | (simp; done) | (simp; rfl), kx⟩
        · cases t0
          · go_wp2_with fail
            refine (H3.out _).mono ?_
            rintro e w2 ⟨rfl, rfl⟩
            cases h0
            · go_wp2_with fail
              go_ret
              exact ⟨by rw [HM5.out]; first | rfl | (simp; done) | (simp; rfl), kx⟩
            · go_wp2_with fail
              go_ret
              exact ⟨by rw [HM5.out]; first | rfl | (simp; done) | (simp; rfl), kx⟩
          · go_wp2_with fail
            go_ret
            exact ⟨by rw [HM5.out]; first | rfl | (simp; done) | (simp; rfl), kx⟩
  · cases n0
    · go_wp2_with fail
      refine (H1.out _).mono ?_
      rintro e w2 ⟨rfl, rfl⟩
      cases h2
      · go_wp2_with fail
        go_ret
        exact ⟨by rw [HM5.out]; first | rfl | (simp; done) | (simp; rfl), kx⟩
      · cases a0
        · go_wp2_with fail
          refine (H2.out _).mono ?_
          rintro e w2 ⟨rfl, rfl⟩
          cases h1
          · go_wp2_with fail
            go_ret
            exact ⟨by rw [HM5.out]; first | rfl | (simp; done) | (simp; rfl), kx⟩
          · cases t0
            · go_wp2_with fail
              refine (H3.out _).mono ?_
              rintro e w2 ⟨rfl, rfl⟩
              cases h0
              · go_wp2_with fail
                go_ret
                exact ⟨by rw [HM5.out]; first | rfl | (simp; done) | (simp; rfl), kx⟩
              · go_wp2_with fail
                go_ret
                exact ⟨by rw [HM5.out]; first | rfl | (simp; done) | (simp; rfl), kx⟩
            · go_wp2_with fail
              go_ret
              exact ⟨by rw [HM5.out]; first | rfl | (simp; done) | (simp; rfl), kx⟩
        · cases t0
          · go_wp2_with fail
            refine (H3.out _).mono ?_
            rintro e w2 ⟨rfl, rfl⟩
            cases h0
            · go_wp2_with fail
              go_ret
              exact ⟨by rw [HM5.out]; first | rfl | (simp; done) | (simp; rfl), kx⟩
            · go_wp2_with fail
              go_ret
              exact ⟨by rw [HM5.out]; first | rfl | (simp; done) | (simp; rfl), kx⟩
          · go_wp2_with fail
            go_ret
            exact ⟨by rw [HM5.out]; first | rfl | (simp; done) | (simp; rfl), kx⟩
    · cases a0
      · go_wp2_with fail
        refine (H2.out _).mono ?_
        rintro e w2 ⟨rfl, rfl⟩
        cases h1
        · go_wp2_with fail
          go_ret
          exact ⟨by rw [HM5.out]; first | rfl | (simp; done) | (simp; rfl), kx⟩
        · cases t0
          · go_wp2_with fail
            refine (H3.out _).mono ?_
            rintro e w2 ⟨rfl, rfl⟩
            cases h0
            · go_wp2_with fail
              go_ret
              exact ⟨by rw [HM5.out]; first | rfl | (simp; done) | (simp; rfl), kx⟩
            · go_wp2_with fail
              go_ret
              exact ⟨by rw [HM5.out]; first | rfl | (simp; done) | (simp; rfl), kx⟩
          · go_wp2_with fail
            go_ret
            exact ⟨by rw [HM5.out]; first | rfl | (simp; done) | (simp; rfl), kx⟩
      · cases t0
        · go_wp2_with fail
          refine (H3.out _).mono ?_
          rintro e w2 ⟨rfl, rfl⟩
          cases h0
          · go_wp2_with fail
            go_ret
            exact ⟨by rw [HM5.out]; first | rfl | (simp; done) | (simp; rfl), kx⟩
          · go_wp2_with fail
            go_ret
            exact ⟨by rw [HM5.out]; first | rfl | (simp; done) | (simp; rfl), kx⟩
        · go_wp2_with fail
          go_ret
          exact ⟨by rw [HM5.out]; first | rfl | (simp; done) | (simp; rfl), kx⟩
end Go.Proofs.YtmcmicgdkdbgjaaDoor
