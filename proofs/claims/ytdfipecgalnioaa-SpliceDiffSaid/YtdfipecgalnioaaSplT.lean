/- splice.Sorted: walked. -/
import Derived.Test.YtdfipecgalnioaaSplS
import Derived.Test.YtdfipecgalnioaaBlk
import Derived.Test.YtdfipecgalnioaaMake
namespace Go.Proofs.Ytdfipecgalnioaa
open Go.RowKit

theorem elem_ch {w : World} {n c k : Nat} {A : Option Addr} {L : List Ch} (h : Sl w 3 A n c (L.flatMap Ch.cells)) (hk : k < n) :
    ∃ b o x, A = some ⟨b, o, none⟩ ∧ L[k]? = some x ∧ w.cell? ⟨b, o + k * 3, none⟩ = some (.int .i64 x.f) ∧ w.cell? ⟨b, o + k * 3 + 1, none⟩ = some (.int .i64 x.t) ∧ w.cell? ⟨b, o + k * 3 + 2, none⟩ = some (.slice x.A x.n x.c) ∧ b < w.heap.size := by
  obtain ⟨b, o, x, hA, hx, hc, hb⟩ := h.elemb (s := 3) (fun _ => rfl) (by omega) hk
  exact ⟨b, o, x, hA, hx, hc 0 _ rfl, hc 1 _ rfl, hc 2 _ rfl, hb⟩

theorem index_any (A : Option Addr) (n c : Nat) (L : List Ch) (w : World) (h : Sl w 3 A n c (L.flatMap Ch.cells)) (hn : n ≤ 19) :
    Calls Try.prog 17 #[.slice A n c, .func (.func 18) #[] #[]] w fun e w' => e = .returned (.bool (!(L.map Ch.k).all okK)) ∧ Kept w w' := by
  have hL := h.llen (enc := Ch.cells) (fun _ => rfl) (by omega)
  have HL := Lib.hid hL
  clear hL
  have hc : Calls Try.prog 26 #[.slice A n c, .func (.func 18) #[] #[]] w fun e w' => ∃ z : Int, e = .returned (.int .i64 z) ∧ decide (0 ≤ z) = (!(L.map Ch.k).all okK) ∧ Kept w w' := by
    have hcap := h.cap
    have hmax := h.max
    go_enter Try.func26, Try.ntmps26
    go_wp2_with fail
    go_loopw [8] (fun i wr => ∃ k : Nat, k ≤ n ∧ i = .int .i64 k ∧ Kept w wr ∧ Hid (((L.take k).map Ch.k).all okK = true)) (fun i _ => n - (intOf i).toNat)
    case atStart => exact ⟨0, Nat.zero_le _, rfl, Kept.refl _, rfl⟩
    case round =>
      obtain ⟨k, hk, rfl, hkept, hinv⟩ := hrel
      by_cases hlt : k < n
      · obtain ⟨b, o, x, rfl, hx, c0, c1, c2, hb⟩ := elem_ch (h.kept hkept) hlt
        have HX := Lib.hid hx
        clear hx
        cases hbad : okK x.k
        · go_wp2_with fail
          refine (bad_any x _).mono ?_
          rintro e w1 ⟨rfl, hk1⟩
          rw [hbad]
          go_wp2_with fail
          go_ret
          refine ⟨_, rfl, ?_, hkept.trans hk1⟩
          have : (L.map Ch.k).all okK = false := by
            rw [← Bool.not_eq_true, List.all_eq_true]
            intro h
            have := h x.k (List.mem_map.2 ⟨x, List.mem_of_getElem? HX.out, rfl⟩)
            rw [hbad] at this
            cases this
          rw [this]
          simp
        · go_wp2_with fail
          refine (bad_any x _).mono ?_
          rintro e w1 ⟨rfl, hk1⟩
          rw [hbad]
          go_wp2_with fail
          go_roundw
          case rel =>
            refine ⟨k + 1, hlt, by go_num, hkept.trans hk1, ?_⟩
            unfold Hid
            rw [List.take_add_one, HX.out, List.map_append, List.all_append, hinv.out]
            simp [hbad]
          case measure =>
            simp [intOf]
            omega
      · go_wp2_with fail
        go_ret
        refine ⟨_, rfl, ?_, hkept⟩
        have h1 := hinv.out
        rw [List.take_of_length_le (by have := HL.out; omega)] at h1
        rw [h1]
        rfl
  have HC := Lib.hid hc
  clear hc
  go_enter Try.func17, Try.ntmps17
  go_wp2_with fail
  refine HC.out.mono ?_
  rintro e w' ⟨z, rfl, hz, hk⟩
  have HZ := Lib.hid hz
  clear hz
  go_wp2_with fail
  go_ret
  exact ⟨ret_bool HZ.out, hk⟩

/-- What Sorted answers: nothing and the error's number, or the changes, sorted. -/
def SortedOf (K : List Kc) (w : World) (e : Ending) (w' : World) : Prop :=
  Kept w w' ∧ ((errK K ≠ 0 ∧ e = .returned (.tuple #[.slice none 0 0, .int .i64 (errK K)])) ∨
    (errK K = 0 ∧ ∃ (A : Option Addr) (n c : Nat) (L : List Ch), e = .returned (.tuple #[.slice A n c, .int .i64 0]) ∧ Sl w' 3 A n c (L.flatMap Ch.cells) ∧ (∀ x ∈ L, x.ok w') ∧ L.map Ch.k = srt K))

theorem own_at {w : World} {base : Nat} {e : TypeId} {s : Nat} {v : Value} {n : Nat} {xs : List Value} {g : Nat} (h : w.ownsRow base e s v n xs) (hg : v.ownBlock = some g) : ∃ c, v = .slice (some ⟨g, 0, none⟩) n c ∧ Sl w s (some ⟨g, 0, none⟩) n c xs ∧ base ≤ g ∧ g < w.heap.size ∧ ∀ j, w.frozen? ⟨g, j, none⟩ = false := by
  obtain ⟨A, c, rfl, hs⟩ := Sl.of_own h
  rcases h.2 with ⟨h0, _⟩ | ⟨g', cap, cur, h0, hb, hgg, _⟩
  · rw [h0] at hg
    simp [Value.ownBlock] at hg
  · injection h0 with h1 _ h2
    subst h1 h2
    simp [Value.ownBlock] at hg
    subst hg
    refine ⟨_, rfl, hs, hb, (Array.getElem?_eq_some_iff.1 hgg).1, fun j => ?_⟩
    simp [World.frozen?, hgg]

set_option maxHeartbeats 4000000 in
theorem sorted_any (A : Option Addr) (n c : Nat) (L : List Ch) (w : World) (h : Sl w 3 A n c (L.flatMap Ch.cells)) (hok : ∀ x ∈ L, x.ok w) (hn : n ≤ 19) (hb : ∀ x ∈ L, x.n ≤ 1000000) :
    Calls Try.prog 8 #[.slice A n c] w fun e w' => SortedOf (L.map Ch.k) w e w' := by
  have hL := h.llen (enc := Ch.cells) (fun _ => rfl) (by omega)
  have HL := Lib.hid hL
  have hcap := h.cap
  have hmax := h.max
  have HOK := Lib.hid hok
  have HB := Lib.hid hb
  clear hok hb hL
  cases hbad : (L.map Ch.k).all okK
  · have HE : Hid (errK (L.map Ch.k) = 3) := by
      unfold Hid errK
      rw [hbad]
      rfl
    have hi := index_any A n c L w h hn
    rw [hbad] at hi
    have HI := Lib.hid hi
    clear hi hbad
    go_enter Try.func8, Try.ntmps8
    go_wp2_with fail
    refine HI.out.mono ?_
    rintro e w1 ⟨rfl, hk1⟩
    go_wp2_with fail
    go_ret2
    exact ⟨hk1, .inl ⟨by rw [HE.out]; decide, by rw [HE.out]; rfl⟩⟩
  · have hi := index_any A n c L w h hn
    rw [hbad] at hi
    have HI := Lib.hid hi
    have HBAD := Lib.hid hbad
    clear hi hbad
    go_enter Try.func8, Try.ntmps8
    go_wp2_with fail
    refine HI.out.mono ?_
    rintro e w1 ⟨rfl, hk1⟩
    go_wp2_with (refine wpList_mk w (by rfl) _ _ (by rfl) appT_chs (by rfl) (by rfl) (by omega) hk1 ?_; intro w2 hown2 hk2)
    obtain ⟨g, hg⟩ : ∃ g, w1.heap.size = g := ⟨_, rfl⟩
    have hge : w.heap.size ≤ g := by rw [← hg]; exact hk1.size
    rw [hg] at hown2 ⊢
    clear hg
    go_loopw [4, 15] (fun v i wr => ∃ (k : Nat) (D : List Ch), k ≤ n ∧ i = .int .i64 k ∧ v.ownBlock.isSome = true ∧ wr.ownsRow w.heap.size 44 3 v k (D.flatMap Ch.cells) ∧ Hid ((∀ x ∈ D, x.ok wr ∧ ∀ b o, x.A = some ⟨b, o, none⟩ → some b ≠ v.ownBlock ∧ b < wr.heap.size) ∧ D.map Ch.k = (L.take k).map Ch.k) ∧ Kept w wr) (fun _ i _ => n - (intOf i).toNat)
    case atStart => exact ⟨0, [], Nat.zero_le _, rfl, rfl, hown2, by unfold Hid; simp, hk2⟩
    case round =>
      obtain ⟨k, D, hk, rfl, hvs, hown, hD, hkept⟩ := hrel
      by_cases hlt : k < n
      · obtain ⟨b, o, x, rfl, hx, c0, c1, c2, hb⟩ := elem_ch (h.kept hkept) hlt
        have HX := Lib.hid hx
        have hxm := List.mem_of_getElem? hx
        have hxo := (HOK.out x hxm).1.kept hkept
        have hxn := HB.out x hxm
        clear hx
        have hkb : Kept wr _ := (Kept.refl wr).alloc (.cells #[.int .i64 x.f, .int .i64 x.t, .slice x.A x.n x.c] 44)
        have b0 : (wr.alloc (.cells #[.int .i64 x.f, .int .i64 x.t, .slice x.A x.n x.c] 44)).cell? ⟨wr.heap.size, 0, none⟩ = some (.int .i64 x.f) := by simp [go_sem]
        have b1 : (wr.alloc (.cells #[.int .i64 x.f, .int .i64 x.t, .slice x.A x.n x.c] 44)).cell? ⟨wr.heap.size, 1, none⟩ = some (.int .i64 x.t) := by simp [go_sem]
        have b2 : (wr.alloc (.cells #[.int .i64 x.f, .int .i64 x.t, .slice x.A x.n x.c] 44)).cell? ⟨wr.heap.size, 2, none⟩ = some (.slice x.A x.n x.c) := by simp [go_sem]
        have own3 := own_kept hown hkb
        have hkept3 := hkept.trans hkb
        have hxo3 := hxo.kept hkb
        have HD := Lib.hid hD.out
        clear hD
        go_upto_region 7 with fail
        generalize wr.alloc (.cells #[.int .i64 x.f, .int .i64 x.t, .slice x.A x.n x.c] 44) = w3 at hkb b0 b1 b2 own3 hkept3 hxo3 ⊢
        obtain ⟨g3, hg3⟩ : ∃ g3, wr.heap.size = g3 := ⟨_, rfl⟩
        have hne : some g3 ≠ u4.ownBlock := by
          intro e
          have := hown.lt _ e.symm
          omega
        rw [hg3] at b0 b1 b2 ⊢
        clear hg3
        go_region_held3 (fun w' => w'.cell? ⟨g3, 0, none⟩ = some (.int .i64 x.f) ∧ w'.cell? ⟨g3, 1, none⟩ = some (.int .i64 x.t) ∧ w'.cell? ⟨g3, 2, none⟩ = some (.slice x.A x.n x.c)) (first | go_keep | exact ⟨hk4.cell b0, hk4.cell b1, hk4.cell b2⟩ | exact ⟨grown_cell hgr5 (((Kept.refl _).alloc _).cell (hk4.cell b0)) hne, grown_cell hgr5 (((Kept.refl _).alloc _).cell (hk4.cell b1)) hne, grown_cell hgr5 (((Kept.refl _).alloc _).cell (hk4.cell b2)) hne⟩)
          (first
          | (go_at_call 19; refine (clone_any _ _ _ x.b _ hxo3.drew hxn).mono ?_; rintro e w4 ⟨VA, VC, rfl, hV, hVf, hk4⟩)
          | (refine step_app w (by rfl) _ _ (by rfl) appT_chs (by rfl) ((own_kept own3.drew hk4).alloc _) ((hkept3.drew.trans hk4).alloc _) (by rfl) (Sl.litg (by rfl) (by rfl) (by omega)) ⟨by rfl, by omega⟩ ?_; intro v' w5 hown5 hk5 hgr5 hob5))
        have hok5 : Hid ((∀ y ∈ D ++ [(⟨x.f, x.t, VA, x.n, VC, x.b⟩ : Ch)], y.ok w5 ∧ ∀ b o, y.A = some ⟨b, o, none⟩ → some b ≠ v'.ownBlock ∧ b < w5.heap.size) ∧ (D ++ [(⟨x.f, x.t, VA, x.n, VC, x.b⟩ : Ch)]).map Ch.k = (L.take (k + 1)).map Ch.k) := by
          unfold Hid
          have hk4a : Kept wr (w4.alloc (.cells #[.int .i64 x.f, .int .i64 x.t, .slice VA x.n VC] 44)) := (hkb.trans ((Kept.refl w3).drew.trans hk4)).alloc _
          have hsz := hkb.size
          have hlt4 := hk4.size
          have hsz5 : w4.heap.size + 1 ≤ w5.heap.size := by have := hgr5.size; simpa using this
          have far : ∀ (z : Ch), z.ok (w4.alloc (.cells #[.int .i64 x.f, .int .i64 x.t, .slice VA x.n VC] 44)) → (∀ b o, z.A = some ⟨b, o, none⟩ → some b ≠ u4.ownBlock ∧ b < w4.heap.size) → z.ok w5 ∧ ∀ b o, z.A = some ⟨b, o, none⟩ → some b ≠ v'.ownBlock ∧ b < w5.heap.size := by
            intro z hz hf
            refine ⟨⟨hz.1.grown hgr5 (fun b o e => (hf b o e).1), hz.2⟩, fun b o e => ?_⟩
            obtain ⟨f1, f2⟩ := hf b o e
            refine ⟨?_, by omega⟩
            rcases hob5 with h | h
            · rw [h]
              exact f1
            · rw [h]
              intro e
              injection e with e
              simp at e
              omega
          have hdr : w3.drew.heap.size = w3.heap.size := rfl
          refine ⟨fun y hy => ?_, ?_⟩
          · rcases List.mem_append.1 hy with hy | hy
            · obtain ⟨q1, q2⟩ := HD.out.1 y hy
              exact far y (q1.kept hk4a) (fun b o e => ⟨(q2 b o e).1, by have := (q2 b o e).2; omega⟩)
            · simp at hy
              subst hy
              refine far _ ⟨hV.kept ((Kept.refl _).alloc _), (HOK.out x hxm).2⟩ (fun b o e => ⟨?_, (hVf b o e).2⟩)
              intro e2
              have := hown.lt _ e2.symm
              have := (hVf b o e).1
              omega
          · rw [List.map_append, HD.out.2, List.take_add_one, HX.out, List.map_append]
            rfl
        go_wp2_with fail
        go_roundw
        case rel => exact ⟨k + 1, D ++ [⟨x.f, x.t, VA, x.n, VC, x.b⟩], hlt, by go_num, by rcases hob5 with h | h <;> rw [h] <;> first | exact hvs | rfl, by rw [List.flatMap_append]; exact hown5, hok5, hk5⟩
        case measure =>
          simp [intOf]
          omega
      · obtain rfl : k = n := by omega
        obtain ⟨g', hg'⟩ := Option.isSome_iff_exists.1 hvs
        obtain ⟨c', rfl, hsl, hge', hlt', hfr⟩ := own_at hown hg'
        have hD2 := hD.out
        rw [List.take_of_length_le (by have := HL.out; omega)] at hD2
        have hDl : D.length = k := by
          have := congrArg List.length hD2.2
          rw [List.length_map, List.length_map, HL.out] at this
          exact this
        have hst := stable_any g' c' D w wr hkept hge' (by rw [hDl]; exact hsl) (fun j _ => hfr j) hlt' (by omega)
        rw [hDl] at hst
        have HST := Lib.hid hst
        have HD2 := Lib.hid hD2
        have HDl := Lib.hid hDl
        clear hst hD hD2 hDl hown hvs hg' hfr
        go_wp2_with fail
        refine HST.out.mono ?_
        rintro e w5 ⟨rfl, hS, hk5, hfar⟩
        have hmap : (sortF (ltOf cmpC) D).map Ch.k = srt (L.map Ch.k) := by
          unfold srt
          rw [← HD2.out.2]
          exact sortF_map _ (fun x y => (lt_ahead x y).symm) D
        have hoks : ∀ x ∈ sortF (ltOf cmpC) D, x.ok w5 := by
          intro x hx
          obtain ⟨⟨q1, q2⟩, q3⟩ := HD2.out.1 x ((sortF_mem _).1 hx)
          refine ⟨⟨q1.1, q1.2.1, q1.2.2.1, fun hp => ?_⟩, q2⟩
          obtain ⟨b, o, e, hc⟩ := q1.2.2.2 hp
          refine ⟨b, o, e, fun j u hu => ?_⟩
          have := q3 b o e
          rw [hfar ⟨b, o + j, none⟩ this.2 (fun e => this.1 (by rw [← e]; rfl))]
          exact hc j u hu
        have hSl : (sortF (ltOf cmpC) D).length = k := by rw [sortF_len, HDl.out]
        obtain ⟨S, hSe⟩ : ∃ S, sortF (ltOf cmpC) D = S := ⟨_, rfl⟩
        rw [hSe] at hS hmap hoks hSl
        have HM := Lib.hid hmap
        have HO := Lib.hid hoks
        have HSl := Lib.hid hSl
        clear hmap hoks hSl hSe hfar HST HD2 HDl
        have HBn : Hid (∀ x ∈ S, (-9223372036854775808 ≤ x.f ∧ x.f ≤ 9223372036854775807)) := fun x hx => (HO.out x hx).2.1
        go_wp2_with fail
        go_loopw [7] (fun i wq => ∃ j : Nat, 1 ≤ j ∧ (j = 1 ∨ j ≤ k) ∧ i = .int .i64 j ∧ Kept w5 wq ∧ Hid (meetK (S.map Ch.k) = meetK ((S.map Ch.k).drop (j - 1)))) (fun i _ => k - (intOf i).toNat)
        case atStart => exact ⟨1, Nat.le_refl _, .inl rfl, rfl, Kept.refl _, rfl⟩
        case round =>
          obtain ⟨j, hj1, hjk, rfl, hkq, hinv⟩ := hrel
          by_cases hlt : j < k
          · have hSq := hS.kept hkq
            obtain ⟨b1, o1, x, e1, hx, x0, x1, _, hb1⟩ := elem_ch hSq hlt
            obtain ⟨b2, o2, y, e2, hy, y0, y1, _, hb2⟩ := elem_ch hSq (k := j - 1) (by omega)
            injection e1 with e1
            injection e1 with e1 e1'
            subst e1 e1'
            injection e2 with e2
            injection e2 with e2 e2'
            subst e2 e2'
            obtain ⟨p, hp⟩ : ∃ p, j = p + 1 := ⟨j - 1, by omega⟩
            rw [show j - 1 = p by omega] at y0 y1 hy
            have HX := Lib.hid hx
            have HY := Lib.hid hy
            clear hx hy
            have wj : IntKind.i64.wrap ((j : Int) - 1) = (p : Int) := by rw [IntWalk.i64_in _ (by omega)]; omega
            have hx' : (S.map Ch.k)[j]? = some x.k := by rw [List.getElem?_map, HX.out]; rfl
            have hy' : (S.map Ch.k)[p]? = some y.k := by rw [List.getElem?_map, HY.out]; rfl
            have hstep : (S.map Ch.k).drop j = x.k :: (S.map Ch.k).drop (j + 1) := by
              obtain ⟨l2, e2⟩ := List.getElem?_eq_some_iff.1 hx'
              rw [List.drop_eq_getElem_cons l2, e2]
            have hstep2 : (S.map Ch.k).drop p = y.k :: (S.map Ch.k).drop j := by
              obtain ⟨l1, e1⟩ := List.getElem?_eq_some_iff.1 hy'
              rw [List.drop_eq_getElem_cons l1, e1, hp]
            have hm : meetK (S.map Ch.k) = (decide (x.f < y.t) || meetK ((S.map Ch.k).drop j)) := by
              rw [hinv.out, show j - 1 = p by omega, hstep2, hstep]
              rfl
            have HMM := Lib.hid hm
            have l1 : (0 : Int) ≤ (p : Int) := by omega
            have l2 : (p : Int) < k := by omega
            have l3 : (0 : Int) ≤ (j : Int) := by omega
            have l4 : (j : Int) < k := by omega
            have HP := Lib.hid hp
            clear hm hstep hstep2 hinv hx' hy' hp
            rw [Nat.zero_add] at x0 y1
            by_cases hc : x.f < y.t
            · have d1 : decide (x.f < y.t) = true := by simpa using hc
              go_wp2_with fail
              go_quiet (fail)
              go_wp2_with fail
              go_ret2
              have hE : errK (L.map Ch.k) = 9 := by
                unfold errK
                rw [HBAD.out, ← HM.out, HMM.out, d1]
                rfl
              exact ⟨hk5.trans (hkq.drewN _), .inl ⟨by rw [hE]; decide, by rw [hE]; rfl⟩⟩
            · have d1 : decide (x.f < y.t) = false := by simpa using hc
              go_wp2_with fail
              go_quiet (fail)
              go_wp2_with fail
              go_roundw
              case rel => exact ⟨j + 1, by omega, .inr (by omega), by go_num, hkq.drewN _, by unfold Hid; rw [HMM.out, d1, Nat.add_sub_cancel]; rfl⟩
              case measure =>
                simp [intOf]
                omega
          · go_wp2_with fail
            go_ret2
            have hE : errK (L.map Ch.k) = 0 := by
              unfold errK
              have hm0 : meetK (S.map Ch.k) = false := by
                rw [hinv.out]
                have hl : ((S.map Ch.k).drop (j - 1)).length ≤ 1 := by
                  rw [List.length_drop, List.length_map, HSl.out]
                  omega
                match hd : (S.map Ch.k).drop (j - 1), hl with
                | [], _ => rfl
                | [_], _ => rfl
                | _ :: _ :: _, hl => simp at hl
              rw [HBAD.out, ← HM.out, hm0]
              rfl
            exact ⟨hk5.trans hkq, .inr ⟨hE, _, k, c', S, rfl, hS.kept hkq, fun x hx => (HO.out x hx).kept hkq, HM.out⟩⟩
end Go.Proofs.Ytdfipecgalnioaa
