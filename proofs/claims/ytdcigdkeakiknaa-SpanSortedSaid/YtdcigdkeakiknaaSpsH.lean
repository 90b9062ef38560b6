/- The library's symMerge at diags, in general: the search walked. then the rotation and the two calls of itself. No hole. -/
import Derived.Test.YtdcigdkeakiknaaSpsG
namespace Go.Proofs.Ytdcigdkeakiknaa
open Go.RowKit
attribute [local go_sem ↓] Go.wp_at_zero Go.wp_at_succ

/-- Where the search stands: d the row, p - k against k. -/
structure SearchAt (d : List Dg) (p lo hi s r : Nat) : Prop where
  ls : lo ≤ s
  sr : s ≤ r
  rh : r ≤ hi
  at_s : s = lo ∨ ∃ x y, d[s - 1]? = some x ∧ d[p - (s - 1)]? = some y ∧ ltD y x = false
  at_r : r = hi ∨ ∃ x y, d[r]? = some x ∧ d[p - r]? = some y ∧ ltD y x = true
theorem seams_of {X U V Y d : List Dg} {a m b mid N P lo hi s E : Nat} (hd : X ++ U ++ V ++ Y = d) (ha : X.length = a) (hm : a + U.length = m) (hb : m + V.length = b) (hN : mid + m = N) (hP : N - 1 = P) (hmid : a ≤ mid ∧ mid < b) (hlh : (mid < m ∧ lo = N - b ∧ hi = mid) ∨ (m ≤ mid ∧ lo = a ∧ hi = m)) (hNb : mid < m → b ≤ N) (hE : N - s = E) (hs : SearchAt d P lo hi s s) (hr : a ≤ s ∧ s ≤ m ∧ m ≤ E ∧ E ≤ b) :
    (∀ x y, (U.take (s - a)).getLast? = some x → (V.drop (E - m)).head? = some y → ltD y x = false) ∧ (∀ x y, (V.take (E - m)).getLast? = some x → (U.drop (s - a)).head? = some y → ltD y x = false) := by
  have gU : ∀ k z, U[k]? = some z → d[a + k]? = some z := by
    intro k z hz
    have hk := (List.getElem?_eq_some_iff.1 hz).1
    rw [← hd, List.append_assoc, List.append_assoc, List.getElem?_append_right (by omega), ha, Nat.add_sub_cancel_left, List.getElem?_append_left hk]
    exact hz
  have gV : ∀ k z, V[k]? = some z → d[m + k]? = some z := by
    intro k z hz
    have hk := (List.getElem?_eq_some_iff.1 hz).1
    rw [← hd, List.append_assoc, List.getElem?_append_right (by simp; omega), show m + k - (X ++ U).length = k by simp; omega, List.getElem?_append_left hk]
    exact hz
  refine ⟨fun x y hx hy => ?_, fun x y hx hy => ?_⟩
  · rw [List.getLast?_eq_getElem?, List.length_take, List.getElem?_take] at hx
    rw [List.head?_drop] at hy
    split at hx
    · rename_i hlt
      have hx' := gU _ _ hx
      have hy' := gV _ _ hy
      have hyl := (List.getElem?_eq_some_iff.1 hy).1
      rcases hs.at_s with e | ⟨x1, y1, h1, h2, h3⟩
      · exfalso
        rcases hlh with ⟨e1, e2, e3⟩ | ⟨e1, e2, e3⟩
        · have := hNb e1
          omega
        · omega
      · rw [show a + (min (s - a) U.length - 1) = s - 1 by omega] at hx'
        rw [show m + (E - m) = P - (s - 1) by omega] at hy'
        rw [hx'] at h1
        rw [hy'] at h2
        rw [Option.some.inj h1, Option.some.inj h2]
        exact h3
    · cases hx
  · rw [List.getLast?_eq_getElem?, List.length_take, List.getElem?_take] at hx
    rw [List.head?_drop] at hy
    split at hx
    · rename_i hlt
      have hx' := gV _ _ hx
      have hy' := gU _ _ hy
      have hyl := (List.getElem?_eq_some_iff.1 hy).1
      rcases hs.at_r with e | ⟨x1, y1, h1, h2, h3⟩
      · exfalso
        rcases hlh with ⟨e1, e2, e3⟩ | ⟨e1, e2, e3⟩
        · omega
        · omega
      · rw [show m + (min (E - m) V.length - 1) = P - s by omega] at hx'
        rw [show a + (s - a) = s by omega] at hy'
        rw [hx'] at h2
        rw [hy'] at h1
        rw [Option.some.inj h1, Option.some.inj h2]
        exact ltD_strict.asymm h3
    · cases hx
/-- Both rows parted where the search has ended. -/
structure Parted (U V : List Dg) (a m b mid s E : Nat) (u1 u2 v1 v2 : List Dg) : Prop where
  hu : u1 ++ u2 = U
  hv : v1 ++ v2 = V
  l1 : a + u1.length = s
  l2 : s + v1.length = mid
  l3 : mid + u2.length = E
  l4 : E + v2.length = b
  l5 : s + u2.length = m
  l6 : m + v1.length = E
  m1 : ∀ x y, u1.getLast? = some x → v2.head? = some y → ltD y x = false
  m2 : ∀ x y, v1.getLast? = some x → u2.head? = some y → ltD y x = false
theorem parted {X U V Y d : List Dg} {a m b mid N P lo hi s : Nat} (hd : X ++ U ++ V ++ Y = d) (ha : X.length = a) (hm : a + U.length = m) (hb : m + V.length = b) (hN : mid + m = N) (hP : N - 1 = P) (hmid : a ≤ mid ∧ mid < b) (h2 : 2 * mid ≤ a + b ∧ a + b ≤ 2 * mid + 1) (hlh : (mid < m ∧ lo = N - b ∧ hi = mid) ∨ (m ≤ mid ∧ lo = a ∧ hi = m)) (hNb : mid < m → b ≤ N) (hs : SearchAt d P lo hi s s) :
    ∃ E u1 u2 v1 v2, N = s + E ∧ Parted U V a m b mid s E u1 u2 v1 v2 := by
  have hr : a ≤ s ∧ s ≤ m ∧ m ≤ N - s ∧ N - s ≤ b ∧ s ≤ N := by
    have q1 := hs.ls
    have q2 := hs.rh
    rcases hlh with ⟨e, e1, e2⟩ | ⟨e, e1, e2⟩
    · have := hNb e
      omega
    · omega
  obtain ⟨m1, m2⟩ := seams_of hd ha hm hb hN hP hmid hlh hNb rfl hs ⟨hr.1, hr.2.1, hr.2.2.1, hr.2.2.2.1⟩
  refine ⟨N - s, U.take (s - a), U.drop (s - a), V.take (N - s - m), V.drop (N - s - m), by omega, ⟨List.take_append_drop _ _, List.take_append_drop _ _, ?_, ?_, ?_, ?_, ?_, ?_, m1, m2⟩⟩
  all_goals
    simp only [List.length_take, List.length_drop]
    omega
theorem Parted.fin {U V L R : List Dg} {a m b mid s E : Nat} {u1 u2 v1 v2 : List Dg} (h : Parted U V a m b mid s E u1 u2 v1 v2) (hU : InOrder ltD U) (hV : InOrder ltD V) (pL : L.Perm (u1 ++ v1)) (pR : R.Perm (u2 ++ v2)) (oL : InOrder ltD L) (oR : InOrder ltD R) : (L ++ R).Perm (U ++ V) ∧ InOrder ltD (L ++ R) := by
  obtain ⟨rfl, rfl, -, -, -, -, -, -, m1, m2⟩ := h
  exact (halves ltD_strict hU hV m1 m2 pL pR oL oR).symm
set_option maxRecDepth 100000 in
set_option maxHeartbeats 8000000 in
theorem symg_any (B g n c : Nat) (X U V Y : List Dg) (a m b : Nat) (w : World) (h : Row B g n c w (X ++ U ++ V ++ Y)) (ha : X.length = a) (hm : a + U.length = m) (hb : m + V.length = b) (hU : InOrder ltD U) (hV : InOrder ltD V) (hn : n ≤ 1000) (hU2 : 2 ≤ U.length) (hV2 : 2 ≤ V.length)
    (IH : ∀ (X U V Y : List Dg) (a' m' b' : Nat) (w : World), b' - a' < b - a → Row B g n c w (X ++ U ++ V ++ Y) → X.length = a' → a' + U.length = m' → m' + V.length = b' → InOrder ltD U → InOrder ltD V → 1 ≤ U.length → 1 ≤ V.length →
      Calls Try.prog 32 #[.slice (some ⟨g, 0, none⟩) n c, .int .i64 (a' : Int), .int .i64 (m' : Int), .int .i64 (b' : Int), .func (.func 25) #[] #[]] w fun e w' => Merges B g n c X U V Y w e w') :
    Calls Try.prog 32 #[.slice (some ⟨g, 0, none⟩) n c, .int .i64 (a : Int), .int .i64 (m : Int), .int .i64 (b : Int), .func (.func 25) #[] #[]] w fun e w' => Merges B g n c X U V Y w e w' := by
  have hl := h.len
  simp only [List.length_append] at hl
  have hE := order_enters
  have hcap := h.sl.cap
  have hmax := h.sl.max
  obtain ⟨d, hd⟩ : ∃ d, X ++ U ++ V ++ Y = d := ⟨_, rfl⟩
  have HD := Lib.hid hd
  rw [hd] at h
  have hdl := h.len
  have HLN := Lib.hid (show X.length = a ∧ a + U.length = m ∧ m + V.length = b ∧ 2 ≤ U.length ∧ 2 ≤ V.length ∧ b ≤ n from ⟨ha, hm, hb, hU2, hV2, by omega⟩)
  have HOO := Lib.hid (show InOrder ltD U ∧ InOrder ltD V from ⟨hU, hV⟩)
  have HIH := Lib.hid IH
  obtain ⟨mid, hmid, hmid1, hmid2⟩ := half_of a b (by omega)
  have hmid3 : 2 * mid ≤ a + b ∧ a + b ≤ 2 * mid + 1 := by omega
  obtain ⟨z1, q1, p1⟩ : ∃ z : Int, IntKind.i64.wrap ((m : Int) - a) = z ∧ ¬ z = 1 := ⟨(m : Int) - a, IntWalk.i64_in _ (by omega), by omega⟩
  obtain ⟨z2, q2, p2⟩ : ∃ z : Int, IntKind.i64.wrap ((b : Int) - m) = z ∧ ¬ z = 1 := ⟨(b : Int) - m, IntWalk.i64_in _ (by omega), by omega⟩
  have r1 : (z1 == 1) = false := by simpa using p1
  have r2 : (z2 == 1) = false := by simpa using p2
  have s1 : IntKind.i64.wrap ((a : Int) + b) = (a : Int) + b := IntWalk.i64_in _ (by omega)
  have s2 : IntKind.u64.wrap ((a : Int) + b) = (a : Int) + b := IntWalk.u64_in _ (by omega)
  have s3 : IntKind.i64.wrap (mid : Int) = (mid : Int) := IntWalk.i64_in _ (by omega)
  obtain ⟨N, hN⟩ : ∃ N, mid + m = N := ⟨_, rfl⟩
  have s4 : IntKind.i64.wrap ((mid : Int) + m) = (N : Int) := by
    rw [show (mid : Int) + m = (N : Int) by omega]
    exact IntWalk.i64_in _ (by omega)
  obtain ⟨P, hP⟩ : ∃ P, N - 1 = P := ⟨_, rfl⟩
  have s5 : IntKind.i64.wrap ((N : Int) - 1) = (P : Int) := by
    rw [show (N : Int) - 1 = (P : Int) by omega]
    exact IntWalk.i64_in _ (by omega)
  obtain ⟨lo, hi, hlh, hlohi⟩ : ∃ lo hi : Nat, ((mid < m ∧ lo = N - b ∧ hi = mid) ∨ (m ≤ mid ∧ lo = a ∧ hi = m)) ∧ lo ≤ hi := by
    by_cases e : mid < m
    · exact ⟨N - b, mid, .inl ⟨e, rfl, rfl⟩, by omega⟩
    · exact ⟨a, m, .inr ⟨by omega, rfl, rfl⟩, by omega⟩
  have HN := Lib.hid (show mid + m = N ∧ N - 1 = P from ⟨hN, hP⟩)
  have HMID := Lib.hid hmid3
  have hrange : ∀ k, lo ≤ k → k < hi → a ≤ k ∧ k < m ∧ m ≤ P - k ∧ P - k < b ∧ k ≤ P := by
    intro k h1 h2
    rcases hlh with ⟨e, rfl, rfl⟩ | ⟨e, rfl, rfl⟩
    · omega
    · omega
  have HRG := Lib.hid hrange
  have hNb : (mid < m → b ≤ N) := by omega
  have HNB := Lib.hid hNb
  have hbn : b ≤ 1000 := by omega
  clear hrange hNb hd hl hm hb ha hU2 hV2 hU hV hmid3 hN hP IH
  go_enter Try.func32, Try.ntmps32
  go_upto_if 140 with fail
  go_cut [20, 21] (fun s r wx => s = .int .i64 (lo : Int) ∧ r = .int .i64 (hi : Int) ∧ w = wx)
  case first =>
    rcases hlh with ⟨e, hlo, hhi⟩ | ⟨e, hlo, hhi⟩
    · have l1 : (mid : Int) < m := by omega
      have hNb := HNB.out e
      have s6 : IntKind.i64.wrap ((N : Int) - b) = (lo : Int) := by
        rw [show (N : Int) - b = (lo : Int) by omega]
        exact IntWalk.i64_in _ (by omega)
      have HH := Lib.hid hhi
      clear hlo hhi
      go_wp2_with fail
      go_meet
      exact ⟨rfl, by rw [HH.out], rfl⟩
    · have l1 : ¬ (mid : Int) < m := by omega
      have HH := Lib.hid (show _ ∧ _ from ⟨hlo, hhi⟩)
      clear hlo hhi
      go_wp2_with fail
      go_meet
      exact ⟨by rw [HH.out.1], by rw [HH.out.2], rfl⟩
  case rest =>
  obtain ⟨rfl, rfl, rfl⟩ := hcut
  have HLH := Lib.hid hlh
  clear hlh
  go_wp2_with fail
  go_loopw [20, 21] (fun u v wr => ∃ s r : Nat, u = .int .i64 s ∧ v = .int .i64 r ∧ w.grownBy wr (some g) ∧ Row B g n c wr d ∧ Hid (SearchAt d P lo hi s r)) (fun u v _ => (intOf v).toNat - (intOf u).toNat)
  case atStart => exact ⟨lo, hi, rfl, rfl, World.grownBy.refl _ _, h, ⟨Nat.le_refl _, hlohi, Nat.le_refl _, .inl rfl, .inl rfl⟩⟩
  case round =>
    obtain ⟨s, r, rfl, rfl, hg, hr, HI⟩ := hrel
    have hI := HI.out
    have hsr := hI.sr
    by_cases hlt : s < r
    · obtain ⟨q, hq, hsq, hqr⟩ := half_of s r hlt
      have hls := hI.ls
      have hrh := hI.rh
      have hrg := HRG.out q (by omega) (by omega)
      have hln := HLN.out
      obtain ⟨x, hx⟩ : ∃ x, d[q]? = some x := ⟨d[q]'(by omega), List.getElem?_eq_getElem _⟩
      obtain ⟨y, hy⟩ : ∃ y, d[P - q]? = some y := ⟨d[P - q]'(by omega), List.getElem?_eq_getElem _⟩
      obtain ⟨x0, x1, x2⟩ := hr.get hx
      obtain ⟨y0, y1, y2⟩ := hr.get hy
      have HB := Lib.hid (fun (hh : ltD y x = false) => show SearchAt d P lo hi (q + 1) r from ⟨by omega, by omega, hrh, .inr ⟨x, y, by simpa using hx, by simpa using hy, hh⟩, hI.at_r⟩)
      have HA := Lib.hid (fun (hh : ltD y x = true) => show SearchAt d P lo hi s q from ⟨hls, hsq, by omega, hI.at_s, .inr ⟨x, y, hx, hy, hh⟩⟩)
      have HRK := Lib.hid hr
      have t1 : IntKind.i64.wrap ((s : Int) + r) = (s : Int) + r := IntWalk.i64_in _ (by omega)
      have t2 : IntKind.u64.wrap ((s : Int) + r) = (s : Int) + r := IntWalk.u64_in _ (by omega)
      have t3 : IntKind.i64.wrap (q : Int) = (q : Int) := IntWalk.i64_in _ (by omega)
      have t4 : IntKind.i64.wrap ((q : Int) + 1) = ((q + 1 : Nat) : Int) := by
        rw [show (q : Int) + 1 = ((q + 1 : Nat) : Int) by omega]
        exact IntWalk.i64_in _ (by omega)
      obtain ⟨pq, hpq⟩ : ∃ k, P - q = k := ⟨_, rfl⟩
      have t5 : IntKind.i64.wrap ((P : Int) - q) = (pq : Int) := by
        rw [show (P : Int) - q = (pq : Int) by omega]
        exact IntWalk.i64_in _ (by omega)
      rw [hpq] at y0 y1 y2
      have l1 : q < n := by omega
      have l2 : pq < n := by omega
      have l3 : (s : Int) < r := by omega
      clear hx hy hln hr hrg hpq hI hls hrh
      have HC := Lib.hid (ahead_any y x wr.drew)
      go_upto_region 35 with fail
      go_region_with (first | (go_at_call 25; refine HC.out.mono ?_; rintro e w5 ⟨r0, rfl, hcs, hk5⟩))
      all_goals
        have hk5' : Kept wr w5 := Kept.trans (Kept.refl wr).drew hk5
        have hg5 := hg.trans (grown_of_kept (row := some g) hk5')
        have hr5 := HRK.out.kept hk5'
        rcases hcs with ⟨hr0, hlt0⟩ | ⟨hr0, hlt0⟩
        · go_wp2_with fail
          all_goals first | (exfalso; rename_i hz; simp at hz; omega) | skip
          go_roundw
          case rel => exact ⟨s, q, rfl, rfl, hg5, hr5, HA.out hlt0.out⟩
          case measure =>
            simp [intOf]
            omega
        · go_wp2_with fail
          all_goals first | (exfalso; rename_i hz; simp at hz; omega) | skip
          go_roundw
          case rel => exact ⟨q + 1, r, rfl, rfl, hg5, hr5, HB.out hlt0.out⟩
          case measure =>
            simp [intOf]
            omega
    · obtain rfl : s = r := by omega
      obtain ⟨E, u1, u2, v1, v2, hNE, hq⟩ := parted HD.out HLN.out.1 HLN.out.2.1 HLN.out.2.2.1 HN.out.1 HN.out.2 ⟨hmid1, hmid2⟩ HMID.out HLH.out HNB.out HI.out
      have HQ := Lib.hid hq
      have hae : a ≤ s ∧ s ≤ m ∧ m ≤ E ∧ E ≤ b ∧ s ≤ mid ∧ mid ≤ E := by
        have := hq.l1
        have := hq.l2
        have := hq.l3
        have := hq.l4
        have := hq.l5
        have := hq.l6
        omega
      have t1 : IntKind.i64.wrap ((N : Int) - s) = (E : Int) := by
        rw [show (N : Int) - s = (E : Int) by omega]
        exact IntWalk.i64_in _ (by omega)
      have HR0 := Lib.hid hr
      have l0 : ¬ (s : Int) < s := by omega
      clear hr hq hNE HI hI hsr hlt
      go_upto_region 39 with fail
      go_cut [185] (fun z wx => z = .bool (decide (s < m ∧ m < E)) ∧ w.grownBy wx (some g) ∧ Hid (Row B g n c wx d))
      case first =>
        as_aux_lemma =>
        by_cases c1 : s < m
        · have i1 : (s : Int) < m := by omega
          by_cases c2 : m < E
          · have i2 : (m : Int) < E := by omega
            go_wp2_with fail
            go_meet
            exact ⟨by simp [c1, c2], hg, HR0.out⟩
          · have i2 : ¬ (m : Int) < E := by omega
            go_wp2_with fail
            go_meet
            exact ⟨by simp [c2], hg, HR0.out⟩
        · have i1 : ¬ (s : Int) < m := by omega
          go_wp2_with fail
          go_meet
          exact ⟨by simp [c1], hg, HR0.out⟩
      case rest =>
      obtain ⟨rfl, hg1, HR1⟩ := hcut
      clear hg HR0
      go_upto_if 185 with fail
      go_cut [] (fun wx => w.grownBy wx (some g) ∧ Hid (Row B g n c wx (X ++ u1 ++ v1 ++ u2 ++ v2 ++ Y)))
      case first =>
        as_aux_lemma =>
        by_cases c1 : s < m ∧ m < E
        · have HC := Lib.hid (rotate_any B g n c (.func (.func 25) #[] #[]) (X ++ u1) u2 v1 (v2 ++ Y) s m E wc (by
            have h1 := HR1.out
            rw [← HD.out, ← HQ.out.hu, ← HQ.out.hv] at h1
            simpa using h1) (by rw [List.length_append, HLN.out.1]; exact HQ.out.l1) HQ.out.l5 HQ.out.l6 (by have := HQ.out.l5; omega) (by have := HQ.out.l6; omega) hn)
          go_wp2_with fail
          refine HC.out.mono ?_
          rintro e w5 ⟨rfl, g5, r5⟩
          have g6 := hg1.trans g5
          go_wp2_with fail
          go_meet
          exact ⟨g6, by unfold Hid; simpa using r5⟩
        · have HR2 : Hid (Row B g n c wc (X ++ u1 ++ v1 ++ u2 ++ v2 ++ Y)) := by
            unfold Hid
            have h1 := HR1.out
            rw [← HD.out, ← HQ.out.hu, ← HQ.out.hv] at h1
            have e5 := HQ.out.l5
            have e6 := HQ.out.l6
            rcases (show u2.length = 0 ∨ v1.length = 0 by omega) with e | e
            · rw [List.length_eq_zero_iff] at e
              subst e
              simpa using h1
            · rw [List.length_eq_zero_iff] at e
              subst e
              simpa using h1
          go_wp2_with fail
          go_meet
          exact ⟨hg1, HR2⟩
      case rest =>
      obtain ⟨hg2, HR2⟩ := hcut
      clear hg1 HR1
      go_upto_region 41 with fail
      go_cut [199] (fun z wx => z = .bool (decide (a < s ∧ s < mid)) ∧ w.grownBy wx (some g) ∧ Hid (Row B g n c wx (X ++ u1 ++ v1 ++ u2 ++ v2 ++ Y)))
      case first =>
        as_aux_lemma =>
        by_cases c1 : a < s
        · have i1 : (a : Int) < s := by omega
          by_cases c2 : s < mid
          · have i2 : (s : Int) < mid := by omega
            go_wp2_with fail
            go_meet
            exact ⟨by simp [c1, c2], hg2, HR2.out⟩
          · have i2 : ¬ (s : Int) < mid := by omega
            go_wp2_with fail
            go_meet
            exact ⟨by simp [c2], hg2, HR2.out⟩
        · have i1 : ¬ (a : Int) < s := by omega
          go_wp2_with fail
          go_meet
          exact ⟨by simp [c1], hg2, HR2.out⟩
      case rest =>
      obtain ⟨rfl, hg3, HR3⟩ := hcut
      clear hg2 HR2
      go_upto_if 199 with fail
      go_cut [] (fun wx => w.grownBy wx (some g) ∧ ∃ L, Hid (Row B g n c wx (X ++ L ++ u2 ++ v2 ++ Y) ∧ L.Perm (u1 ++ v1) ∧ InOrder ltD L))
      case first =>
        as_aux_lemma =>
        have hoo := HOO.out
        rw [← HQ.out.hu, ← HQ.out.hv] at hoo
        have HO1 := Lib.hid (inOrder_left hoo.1)
        have HO2 := Lib.hid (inOrder_left hoo.2)
        clear hoo
        by_cases c1 : a < s ∧ s < mid
        · have HC := Lib.hid (HIH.out X u1 v1 (u2 ++ v2 ++ Y) a s mid wc (by omega) (by simpa using HR3.out) HLN.out.1 HQ.out.l1 HQ.out.l2 HO1.out HO2.out (by have := HQ.out.l1; omega) (by have := HQ.out.l2; omega))
          go_wp2_with fail
          refine HC.out.mono ?_
          rintro e w5 ⟨rfl, g5, L, pL, oL, r5⟩
          have g6 := hg3.trans g5
          go_wp2_with fail
          go_meet
          exact ⟨g6, L, by simpa using r5, pL, oL⟩
        · have HR4 : Hid (Row B g n c wc (X ++ (u1 ++ v1) ++ u2 ++ v2 ++ Y) ∧ (u1 ++ v1).Perm (u1 ++ v1) ∧ InOrder ltD (u1 ++ v1)) := by
            refine ⟨by simpa using HR3.out, List.Perm.refl _, ?_⟩
            have e5 := HQ.out.l1
            have e6 := HQ.out.l2
            rcases (show u1.length = 0 ∨ v1.length = 0 by omega) with e | e
            · rw [List.length_eq_zero_iff] at e
              rw [e]
              exact HO2.out
            · rw [List.length_eq_zero_iff] at e
              rw [e, List.append_nil]
              exact HO1.out
          go_wp2_with fail
          go_meet
          exact ⟨hg3, _, HR4⟩
      case rest =>
      obtain ⟨hg4, L, HR4⟩ := hcut
      clear hg3 HR3
      go_upto_region 43 with fail
      go_cut [213] (fun z wx => z = .bool (decide (mid < E ∧ E < b)) ∧ w.grownBy wx (some g) ∧ Hid (Row B g n c wx (X ++ L ++ u2 ++ v2 ++ Y) ∧ L.Perm (u1 ++ v1) ∧ InOrder ltD L))
      case first =>
        as_aux_lemma =>
        by_cases c1 : mid < E
        · have i1 : (mid : Int) < E := by omega
          by_cases c2 : E < b
          · have i2 : (E : Int) < b := by omega
            go_wp2_with fail
            go_meet
            exact ⟨by simp [c1, c2], hg4, HR4.out⟩
          · have i2 : ¬ (E : Int) < b := by omega
            go_wp2_with fail
            go_meet
            exact ⟨by simp [c2], hg4, HR4.out⟩
        · have i1 : ¬ (mid : Int) < E := by omega
          go_wp2_with fail
          go_meet
          exact ⟨by simp [c1], hg4, HR4.out⟩
      case rest =>
      obtain ⟨rfl, hg5, HR5⟩ := hcut
      clear hg4 HR4
      have hoo := HOO.out
      rw [← HQ.out.hu, ← HQ.out.hv] at hoo
      have HO1 := Lib.hid (inOrder_right hoo.1)
      have HO2 := Lib.hid (inOrder_right hoo.2)
      clear hoo
      have HXL : Hid ((X ++ L).length = mid) := by
        have e1 := HLN.out.1
        have e2 := HR5.out.2.1.length_eq
        have e5 := HQ.out.l1
        have e6 := HQ.out.l2
        unfold Hid
        rw [List.length_append] at e2 ⊢
        omega
      by_cases c1 : mid < E ∧ E < b
      · have HC := Lib.hid (HIH.out (X ++ L) u2 v2 Y mid E b wc (by have := HLN.out; have := HMID.out; omega) HR5.out.1 HXL.out HQ.out.l3 HQ.out.l4 HO1.out HO2.out (by have := HQ.out.l3; omega) (by have := HQ.out.l4; omega))
        go_wp2_with fail
        refine HC.out.mono ?_
        rintro e w5 ⟨rfl, g6, R, pR, oR, r5⟩
        have g7 := hg5.trans g6
        go_wp2_with fail
        go_end0
        obtain ⟨pf, of⟩ := HQ.out.fin HOO.out.1 HOO.out.2 HR5.out.2.1 pR HR5.out.2.2 oR
        exact ⟨rfl, g7, L ++ R, pf, of, by simpa using r5⟩
      · have HR6 : Hid ((u2 ++ v2).Perm (u2 ++ v2) ∧ InOrder ltD (u2 ++ v2)) := by
          refine ⟨List.Perm.refl _, ?_⟩
          have e5 := HQ.out.l3
          have e6 := HQ.out.l4
          rcases (show u2.length = 0 ∨ v2.length = 0 by omega) with e | e
          · rw [List.length_eq_zero_iff] at e
            rw [e]
            exact HO2.out
          · rw [List.length_eq_zero_iff] at e
            rw [e, List.append_nil]
            exact HO1.out
        go_wp2_with fail
        go_end0
        obtain ⟨pf, of⟩ := HQ.out.fin HOO.out.1 HOO.out.2 HR5.out.2.1 HR6.out.1 HR5.out.2.2 HR6.out.2
        exact ⟨rfl, hg5, L ++ (u2 ++ v2), pf, of, by simpa using HR5.out.1⟩
theorem symMerge_any (B g n c : Nat) (hn : n ≤ 1000) : ∀ (k : Nat) (X U V Y : List Dg) (a m b : Nat) (w : World), b - a < k → Row B g n c w (X ++ U ++ V ++ Y) → X.length = a → a + U.length = m → m + V.length = b → InOrder ltD U → InOrder ltD V → 1 ≤ U.length → 1 ≤ V.length →
    Calls Try.prog 32 #[.slice (some ⟨g, 0, none⟩) n c, .int .i64 (a : Int), .int .i64 (m : Int), .int .i64 (b : Int), .func (.func 25) #[] #[]] w fun e w' => Merges B g n c X U V Y w e w'
  | 0, _, _, _, _, _, _, _, _, hk, _, _, _, _, _, _, _, _ => absurd hk (Nat.not_lt_zero _)
  | k + 1, X, U, V, Y, a, m, b, w, hk, h, ha, hm, hb, hU, hV, hU1, hV1 => by
    by_cases h1 : U.length = 1 ∨ (2 ≤ U.length ∧ V.length = 1)
    · exact sym_one B g n c X U V Y a m b w h ha hm hb hU hV hn h1
    · exact symg_any B g n c X U V Y a m b w h ha hm hb hU hV hn (by omega) (by omega) (fun X' U' V' Y' a' m' b' w' hlt => symMerge_any B g n c hn k X' U' V' Y' a' m' b' w' (by omega))
end Go.Proofs.Ytdcigdkeakiknaa
