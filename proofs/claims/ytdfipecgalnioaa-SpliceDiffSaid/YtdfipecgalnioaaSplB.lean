/- The document's Apply (layer 12): walked. -/
import Derived.Test.YtdfipecgalnioaaSplR
namespace Go.Proofs.Ytdfipecgalnioaa
open Go.RowKit
attribute [local go_sem ↓] Go.wp_at_zero Go.wp_at_succ

theorem last_ge : ∀ (l : List Kc), l.all okK = true → meetK l = false → ∀ c ∈ l, ∃ z, lastT l = some z ∧ c.t ≤ z
  | [], _, _, c, hc => by cases hc
  | [d], _, _, c, hc => by
    simp at hc
    subst hc
    exact ⟨_, rfl, Int.le_refl _⟩
  | d :: e :: l, ho, hm, c, hc => by
    rw [List.all_cons, Bool.and_eq_true] at ho
    simp only [meetK, Bool.or_eq_false_iff, decide_eq_false_iff_not] at hm
    have ih := last_ge (e :: l) ho.2 hm.2
    rcases List.mem_cons.1 hc with rfl | hc
    · obtain ⟨z, hz, hle⟩ := ih e (by simp)
      have he : okK e = true := by
        have := ho.2
        rw [List.all_cons, Bool.and_eq_true] at this
        exact this.1
      simp [okK] at he
      exact ⟨z, hz, by omega⟩
    · exact ih c hc
theorem last_mem : ∀ (l : List Kc) (z : Int), lastT l = some z → ∃ c ∈ l, c.t = z
  | [], z, h => by cases h
  | [c], z, h => by
    injection h with h
    exact ⟨c, by simp, h⟩
  | d :: e :: l, z, h => by
    obtain ⟨c, hc, e⟩ := last_mem (e :: l) z h
    exact ⟨c, by simp at hc ⊢; exact .inr hc, e⟩
theorem errK_zero {K : List Kc} (h : errK K = 0) : (srt K).all okK = true ∧ meetK (srt K) = false := by
  unfold errK at h
  split at h
  · rename_i hall
    split at h
    · cases h
    · rename_i hm
      refine ⟨?_, by simpa using hm⟩
      rw [List.all_eq_true] at hall ⊢
      exact fun x hx => hall x ((sortF_mem _).1 hx)
  · cases h
theorem errA_three {b : List Int} {K : List Kc} (h : errK K = 0) {c : Kc} (hc : c ∈ srt K) (hlt : (b.length : Int) < c.t) : errA b K = 3 := by
  obtain ⟨h1, h2⟩ := errK_zero h
  obtain ⟨z, hz, hle⟩ := last_ge _ h1 h2 c hc
  unfold errA
  rw [if_pos h, hz]
  have : decide ((b.length : Int) < z) = true := by simp; omega
  simp [this]
theorem errA_zero {b : List Int} {K : List Kc} (h : errK K = 0) (hall : ∀ c ∈ srt K, c.t ≤ b.length) : errA b K = 0 := by
  unfold errA
  rw [if_pos h]
  cases hz : lastT (srt K) with
  | none => rfl
  | some z =>
    obtain ⟨c, hc, e⟩ := last_mem _ _ hz
    have := hall c hc
    have : decide ((b.length : Int) < z) = false := by simp; omega
    simp [this]
theorem refF_cons (b : List Int) (c : Kc) (l : List Kc) : refF b (c :: l) = (refF b l).take c.f.toNat ++ c.b ++ (refF b l).drop c.t.toNat := rfl
theorem lies_drop : ∀ (l : List Kc) (a n k : Nat), Lies a l n → ∃ a', Lies a' (l.drop k) n
  | l, a, n, 0, h => ⟨a, h⟩
  | [], a, n, k + 1, h => ⟨a, h⟩
  | c :: l, a, n, k + 1, h => lies_drop l _ n k h.2.2
theorem refF_ge {l : List Kc} {b : List Int} {a : Nat} (h : Lies a l b.length) : a ≤ (refF b l).length := by
  have := lies_le _ _ _ h
  rw [ref_out l b a h, List.length_append, List.length_take]
  omega
set_option maxRecDepth 100000 in
set_option maxHeartbeats 8000000 in
theorem rapply_any (B : Option Addr) (m d : Nat) (b : List Int) (A : Option Addr) (n c : Nat) (L : List Ch) (w : World) (hB : Sl w 1 B m d (b.map (Value.int .u8))) (hm : m ≤ 100000) (h : Sl w 3 A n c (L.flatMap Ch.cells)) (hok : ∀ x ∈ L, x.ok w) (hn : n ≤ 19) (hb : ∀ x ∈ L, x.n ≤ 100000) :
    Calls Try.prog 15 #[.slice B m d, .slice A n c] w fun e w' => AppliedOf b (L.map Ch.k) w e w' := by
  have hs := rsorted_any A n c L w h hok hn
  have hmb := hB.llen1
  have hcap := hB.cap
  have hmax := hB.max
  have HB := Lib.hid hb
  have HOKL := Lib.hid hok
  clear hb hok
  by_cases he : errK (L.map Ch.k) = 0
  rotate_left
  · have hE : errA b (L.map Ch.k) = errK (L.map Ch.k) := by unfold errA; rw [if_neg he]
    have hs2 : Calls Try.prog 10 #[.slice A n c] w fun e w' => e = .returned (.tuple #[.slice none 0 0, .int .i64 (errK (L.map Ch.k))]) ∧ Kept w w' := by
      refine hs.mono ?_
      rintro e w' ⟨h1, ⟨_, h2⟩ | ⟨h2, _⟩⟩
      · exact ⟨h2, h1⟩
      · exact absurd h2 he
    obtain ⟨z, hz⟩ : ∃ z, errK (L.map Ch.k) = z := ⟨_, rfl⟩
    rw [hz] at hE he hs2
    have d1 : (z != 0) = true := by simpa using he
    have HE := Lib.hid hE
    have HS := Lib.hid hs2
    clear hz hs hs2 hE
    go_enter Try.func15, Try.ntmps15
    go_wp2_with fail
    refine HS.out.mono ?_
    rintro e w1 ⟨rfl, hk1⟩
    go_wp2_with fail
    exact bodyPost_ret (v := .tuple #[.slice none 0 0, .slice none 0 0, .int .i64 z]) (by simp [results, Try.results15, go_sem]) rfl ⟨hk1, .inl ⟨by rw [HE.out]; exact he, by rw [HE.out]⟩⟩
  · have hs2 : Calls Try.prog 10 #[.slice A n c] w fun e w' => ∃ (A : Option Addr) (n c : Nat) (S : List Ch), e = .returned (.tuple #[.slice A n c, .int .i64 0]) ∧ Sl w' 3 A n c (S.flatMap Ch.cells) ∧ (∀ x ∈ S, x.ok w') ∧ S.map Ch.k = srt (L.map Ch.k) ∧ Kept w w' := by
      refine hs.mono ?_
      rintro e w' ⟨h1, ⟨h2, _⟩ | ⟨_, A, n, c, S, h3, h4, h5, h6⟩⟩
      · exact absurd he h2
      · exact ⟨A, n, c, S, h3, h4, h5, h6, h1⟩
    have HS := Lib.hid hs2
    have HEK := Lib.hid he
    clear hs hs2 he
    go_enter Try.func15, Try.ntmps15
    go_wp2_with fail
    refine HS.out.mono ?_
    rintro e wc ⟨A1, n1, c1, S, rfl, hS, hok, hmap, hk1⟩
    have hSl := hS.llen (enc := Ch.cells) (fun _ => rfl) (by omega)
    have c1' := hS.cap
    have c2' := hS.max
    have HMap := Lib.hid hmap
    have HOk := Lib.hid hok
    have HSl := Lib.hid hSl
    have HMB := Lib.hid hmb
    have hBS : ∀ y ∈ S, y.n ≤ 100000 := by
      intro y hy
      have h1 : y.k ∈ srt (L.map Ch.k) := by rw [← hmap]; exact List.mem_map.2 ⟨y, hy, rfl⟩
      obtain ⟨x, hx, e⟩ := List.mem_map.1 ((sortF_mem _).1 h1)
      have e1 : x.b = y.b := congrArg Kc.b e
      have h2 := (HOKL.out x hx).1.llen1
      have h3 := (HOk.out y hy).1.llen1
      have h4 := HB.out x hx
      rw [← h3, ← e1, h2]
      exact h4
    have hn1 : n1 ≤ 19 := by
      have e1 := map_len HMap.out
      have e2 : (srt (L.map Ch.k)).length = L.length := by unfold srt; rw [sortF_len, List.length_map]
      have e3 := h.llen (enc := Ch.cells) (fun _ => rfl) (by omega)
      have e4 := HSl.out
      omega
    have HBS := Lib.hid hBS
    have hBc := hB.kept hk1
    clear hBS hB h hmap hok hSl hmb
    go_wp2_with fail
    go_loopw [28] (fun i wr => ∃ k : Nat, k ≤ n1 ∧ i = .int .i64 k ∧ Kept wc wr ∧ Hid (∀ y ∈ S.take k, y.t ≤ m)) (fun i _ => n1 - (intOf i).toNat)
    case atStart => exact ⟨0, Nat.zero_le _, rfl, Kept.refl _, by unfold Hid; simp⟩
    case round =>
      obtain ⟨k, hk, rfl, hkr, hinv⟩ := hrel
      by_cases hlt : k < n1
      · obtain ⟨bS, oS, x, rfl, hx, x0, x1, x2, hbS⟩ := elem_ch (hS.kept hkr) hlt
        have HX := Lib.hid hx
        clear hx
        by_cases hc : (m : Int) < x.t
        · have d1 : decide ((m : Int) < x.t) = true := by simpa using hc
          have hE : errA b (L.map Ch.k) = 3 := errA_three HEK.out (c := x.k) (by rw [← HMap.out]; exact List.mem_map.2 ⟨x, List.mem_of_getElem? HX.out, rfl⟩) (by have := HMB.out; show (b.length : Int) < x.t; omega)
          have HE := Lib.hid hE
          clear hE
          go_wp2_with fail
          exact bodyPost_ret (v := .tuple #[.slice none 0 0, .slice none 0 0, .int .i64 3]) (by simp [results, Try.results15, go_sem]) rfl ⟨(hk1.trans hkr).alloc _, .inl ⟨by rw [HE.out]; decide, by rw [HE.out]⟩⟩
        · have d1 : decide ((m : Int) < x.t) = false := by simpa using hc
          go_wp2_with fail
          go_roundw
          case rel =>
            refine ⟨k + 1, hlt, by go_num, hkr.alloc _, ?_⟩
            unfold Hid
            intro y hy
            rw [List.take_add_one, HX.out] at hy
            rcases List.mem_append.1 hy with hy | hy
            · exact hinv.out y hy
            · simp at hy
              subst hy
              omega
          case measure =>
            simp [intOf]
            omega
      · obtain rfl : k = n1 := by omega
        have hall := hinv.out
        rw [List.take_of_length_le (by have := HSl.out; omega)] at hall
        have hE : errA b (L.map Ch.k) = 0 := errA_zero HEK.out (fun c hc => by
          rw [← HMap.out] at hc
          obtain ⟨y, hy, rfl⟩ := List.mem_map.1 hc
          have := hall y hy
          have := HMB.out
          show y.t ≤ _
          omega)
        have hlies := (errA_lies hE).2
        rw [← HMap.out, HMB.out] at hlies
        have HLs := Lib.hid hlies
        have HE := Lib.hid hE
        have hk2 := hk1.trans hkr
        have hBr := hBc.kept hkr
        have hSr := hS.kept hkr
        have hokr : Hid (∀ x ∈ S, x.ok wr) := fun x hx => (HOk.out x hx).kept hkr
        clear hall hE hlies hinv hkr hS hBc HOk hk1 hlt
        have o0 := own_lit (w := wr) (base := wr.heap.size) (e := 5) (size := 1) (n := 0) (cs := []) (by rfl) (by omega) (Nat.le_refl _)
        have k0 := (Kept.refl wr).alloc (.cells #[] 5)
        go_upto_region 12 with (at_builtin; refine wpList_appk wr (by rfl) _ _ (by rfl) appT_bytes (by rfl) o0 k0 (by rfl) (hBr.kept k0) ?_ ?_; (exact ⟨ints_one _ _, by omega⟩); (intro v5 w5 hown5 hk5 hgr5 hob5; obtain ⟨VA5, VC5, rfl, hV5⟩ := own_sl hown5))
        rw [Nat.zero_add, List.nil_append] at hV5
        clear hown5 hgr5 hob5 o0 k0
        obtain ⟨w2, hw2⟩ : ∃ z, z = wr := ⟨_, rfl⟩
        subst hw2
        go_loopw [11, 12] (fun v i wq => ∃ (j on : Nat) (OA : Option Addr) (OC : Nat), j ≤ k ∧ i = .int .i64 ((j : Int) - 1) ∧ v = .slice OA on OC ∧ on ≤ m + (k - j) * 100000 ∧ Sl wq 1 OA on OC ((refF b ((S.map Ch.k).drop j)).map (Value.int .u8)) ∧ Kept w2 wq) (fun _ i _ => (intOf i + 1).toNat)
        case atStart => exact ⟨k, m, VA5, VC5, Nat.le_refl _, rfl, rfl, by omega, by rw [List.drop_eq_nil_of_le (by rw [List.length_map, HSl.out]; exact Nat.le_refl _)]; exact hV5, hk5⟩
        case round =>
          obtain ⟨j, on, OA, OC, hjk, rfl, rfl, hon, hO, hkq⟩ := hrel
          have oc := hO.cap
          have om := hO.max
          by_cases h0 : j = 0
          · subst h0
            rw [show (((0 : Nat) : Int) - 1) = -1 from rfl]
            obtain ⟨w3, hw3⟩ : ∃ z, z = wr := ⟨_, rfl⟩
            subst hw3
            rw [List.drop_zero] at hO
            have hk4 := hk2.trans hkq
            have hBr3 := hBr.kept hkq
            have hSr3 := hSr.kept hkq
            have hok3 : Hid (∀ x ∈ S, x.ok w3) := fun x hx => (hokr.out x hx).kept hkq
            have hon2 : on ≤ 3000000 := by
              have : (k - 0) * 100000 ≤ 19 * 100000 := Nat.mul_le_mul_right _ (by omega)
              omega
            clear hkq hk2 hBr hSr hokr hV5 hk5 hon
            go_wp2_with fail
            go_loopw [14, 15, 76] (fun v14 s15 s76 wr => ∃ (j a N : Nat) (M : Int) (Bk : List Ch), j ≤ k ∧ s76 = .int .i64 j ∧ s15 = .int .i64 M ∧ (-10000000 ≤ M ∧ M ≤ 10000000) ∧ a ≤ m ∧ N ≤ a + j * 100000 ∧ Two w3 wr 5 49 (.slice none 0 0) v14 [] Bk ∧
              Hid (M = (N : Int) - a ∧ backF b 0 0 (S.map Ch.k) = Bk.map Ch.k ++ backF b N a ((S.map Ch.k).drop j) ∧ Lies a ((S.map Ch.k).drop j) m ∧ Bk.length = j)) (fun _ _ s76 _ => k - (intOf s76).toNat)
            case atStart => exact ⟨0, 0, 0, 0, [], Nat.zero_le _, rfl, rfl, ⟨by omega, by omega⟩, Nat.zero_le _, Nat.zero_le _, Two.start (Kept.refl _), by unfold Hid; exact ⟨rfl, rfl, HLs.out, rfl⟩⟩
            case round =>
              obtain ⟨j, a, N, M, Bk, hj, rfl, rfl, hMb, ham, hNb, two, hinv⟩ := hrel
              obtain ⟨hM1, hM2⟩ := hMb
              by_cases hlt : j < k
              · obtain ⟨bS, oS, x, rfl, hx, x0, x1, x2, hbS⟩ := elem_ch (hSr3.kept two.k) hlt
                have hxm := List.mem_of_getElem? hx
                have hxo := (hok3.out x hxm).1.kept two.k
                have hxn := HBS.out x hxm
                have hxb := hxo.llen1
                have hstep : (S.map Ch.k).drop j = x.k :: (S.map Ch.k).drop (j + 1) := by
                  have hx' : (S.map Ch.k)[j]? = some x.k := by rw [List.getElem?_map, hx]; rfl
                  obtain ⟨l2, e2⟩ := List.getElem?_eq_some_iff.1 hx'
                  rw [List.drop_eq_getElem_cons l2, e2]
                obtain ⟨i1, i2, i3, i4⟩ := hinv.out
                rw [hstep] at i2 i3
                obtain ⟨j1, j2, j3⟩ := i3
                have j4 := lies_le _ _ _ j3
                obtain ⟨F, hF⟩ : ∃ F : Nat, x.f = F := ⟨x.f.toNat, by have : (a : Int) ≤ x.f := j1; omega⟩
                obtain ⟨T, hT⟩ : ∃ T : Nat, x.t = T := ⟨x.t.toNat, by have : (a : Int) ≤ x.f := j1; have : x.f ≤ x.t := j2; omega⟩
                have j1' : a ≤ F := by have : (a : Int) ≤ x.f := j1; omega
                have j2' : F ≤ T := by have : x.f ≤ x.t := j2; omega
                have j4' : T ≤ m := by have : x.t.toNat ≤ m := j4; omega
                have hkf : x.k.f.toNat = F := by show x.f.toNat = F; omega
                have hkt : x.k.t.toNat = T := by show x.t.toNat = T; omega
                obtain ⟨N4, hN4⟩ : ∃ z, N + (F - a) = z := ⟨_, rfl⟩
                obtain ⟨E5, hE5⟩ : ∃ z, N4 + x.n = z := ⟨_, rfl⟩
                have e2 : backF b 0 0 (S.map Ch.k) = Bk.map Ch.k ++ (⟨(N4 : Int), (E5 : Int), (b.drop F).take (T - F)⟩ :: backF b E5 T ((S.map Ch.k).drop (j + 1))) := by
                  rw [i2, backF_cons, hkf, hkt, hN4, show x.k.b.length = x.n from hxb, hE5]
                rw [hkt] at j3
                rw [hF] at x0
                rw [hT] at x1
                have hN4b : N4 ≤ 100000 + 20 * 100000 := by
                  have : j * 100000 ≤ 19 * 100000 := Nat.mul_le_mul_right _ (by omega)
                  omega
                have hNb2 : E5 ≤ T + (j + 1) * 100000 := by
                  rw [Nat.add_mul]
                  omega
                have hMN : (F : Int) + M = (N4 : Int) := by omega
                have wM : IntKind.i64.wrap ((F : Int) + M) = (N4 : Int) := by rw [IntWalk.i64_in _ (by omega)]; exact hMN
                have wE : IntKind.i64.wrap ((N4 : Int) + (x.n : Int)) = (E5 : Int) := by rw [IntWalk.i64_in _ (by omega)]; omega
                have E2 := Lib.hid e2
                have J3 := Lib.hid j3
                have I4 := Lib.hid i4
                have I1 := Lib.hid i1
                have HN4 := Lib.hid hN4
                have HE5 := Lib.hid hE5
                clear e2 j3 i4 i1 i2 j1 j2 j4 hkf hkt hstep hinv hx hF hT hN4 hE5 hMN
                have hc2 := run_cut_lh appT_bytes B m d F T j2' (by omega)
                obtain ⟨C2, hC2⟩ : ∃ C, cutA B d F 1 = C := ⟨_, rfl⟩
                have q2 := fun w' (hk : Kept w3 w') => (hBr3.kept hk).cut1 (i := F) (m := T) j2' (by omega)
                rw [hC2] at hc2 q2
                have Q2 := Lib.hid q2
                have p4 : (F : Int) ≤ T := by omega
                have p5 : (T : Int) ≤ d := by omega
                have p6 : (0 : Int) ≤ F := by omega
                have k1 : Kept wr _ := (Kept.refl wr).alloc (.cells #[.int .i64 F, .int .i64 T, .slice x.A x.n x.c] 49)
                have bx := Blk.new wr #[.int .i64 F, .int .i64 T, .slice x.A x.n x.c] 49
                clear hC2 q2
                go_upto_region 23 with fail
                generalize wr.alloc (.cells #[.int .i64 F, .int .i64 T, .slice x.A x.n x.c] 49) = w4 at k1 bx ⊢
                obtain ⟨g3, hg3⟩ : ∃ g3, wr.heap.size = g3 := ⟨_, rfl⟩
                have n10 : some g3 ≠ u14.ownBlock := by
                  intro e
                  have := two.o10.lt _ e.symm
                  omega
                rw [hg3] at bx ⊢
                have two4 := two.kept k1
                have b0 : w4.cell? ⟨g3, 0, none⟩ = some (.int .i64 F) := bx.cell 0
                have b1 : w4.cell? ⟨g3, 1, none⟩ = some (.int .i64 T) := bx.cell 1
                have b2 : w4.cell? ⟨g3, 2, none⟩ = some (.slice x.A x.n x.c) := bx.cell 2
                have hBkl : Bk.length ≤ 19 := by have := I4.out; omega
                clear hg3 x0 x1 x2 two
                go_region_held3 (fun w' => w'.cell? ⟨g3, 0, none⟩ = some (.int .i64 F) ∧ w'.cell? ⟨g3, 1, none⟩ = some (.int .i64 T) ∧ w'.cell? ⟨g3, 2, none⟩ = some (.slice x.A x.n x.c)) (first | go_keep | exact ⟨hk6.cell b0, hk6.cell b1, hk6.cell b2⟩ | exact ⟨grown_cell hgr7 (((Kept.refl _).alloc _).cell (hk6.cell b0)) n10, grown_cell hgr7 (((Kept.refl _).alloc _).cell (hk6.cell b1)) n10, grown_cell hgr7 (((Kept.refl _).alloc _).cell (hk6.cell b2)) n10⟩)
                  (first
                  | (refine step_app w4 (by rfl) _ _ (by rfl) appT_bytes (by rfl) (own_lit (w := w4.drew) (base := w4.heap.size) (size := 1) (n := 0) (cs := []) (by rfl) (by omega) (Nat.le_refl _)) ((Kept.refl w4).drew.alloc _) (by rfl) ((Q2.out w4 two4.k).kept ((Kept.refl w4).drew.alloc _)) ⟨ints_one _ _, by omega⟩ ?_; intro v6 w6 hown6 hk6 hgr6 hob6; obtain ⟨VA6, VC6, rfl, hV6⟩ := own_sl hown6)
                  | (refine step_app w3 (by rfl) _ _ (by rfl) appT_rchs (by rfl) ((two4.kept hk6).kept ((Kept.refl _).alloc _)).o10 ((two4.kept hk6).k.alloc _) (by rfl) (Sl.litg (by rfl) (by rfl) (by omega)) ⟨by rfl, by omega⟩ ?_; intro v7 w7 hown7 hk7 hgr7 hob7))
                rw [Nat.zero_add, List.nil_append] at hV6
                have two6a := (two4.kept hk6).kept ((Kept.refl _).alloc (.cells #[.int .i64 N4, .int .i64 E5, .slice VA6 (T - F) VC6] 49))
                have hyok : (⟨(N4 : Int), (E5 : Int), VA6, T - F, VC6, (b.drop F).take (T - F)⟩ : Ch).ok (w6.alloc (.cells #[.int .i64 N4, .int .i64 E5, .slice VA6 (T - F) VC6] 49)) ∧ ∀ b' o', (⟨(N4 : Int), (E5 : Int), VA6, T - F, VC6, (b.drop F).take (T - F)⟩ : Ch).A = some ⟨b', o', none⟩ → some b' ≠ (Value.slice none 0 0).ownBlock ∧ some b' ≠ u14.ownBlock ∧ b' < (w6.alloc (.cells #[.int .i64 N4, .int .i64 E5, .slice VA6 (T - F) VC6] 49)).heap.size := by
                  have := HE5.out
                  refine ⟨⟨hV6.kept ((Kept.refl _).alloc _), ⟨by dsimp only; omega, by dsimp only; omega⟩, ⟨by dsimp only; omega, by dsimp only; omega⟩⟩, fun b' o' e => ?_⟩
                  have e' : VA6 = some ⟨b', o', none⟩ := e
                  obtain ⟨f1, f2⟩ := hown6.lt b' (by rw [e']; rfl)
                  refine ⟨?_, ?_, by simp; omega⟩
                  · intro e
                    cases e
                  · intro e
                    have := (two4.o10.lt _ e.symm).2
                    omega
                have two7 := two6a.push10 hyok hown7 hk7 hgr7 (by simpa using hob7)
                have bx7 := ((bx.kept hk6).alloc (.cells #[.int .i64 N4, .int .i64 E5, .slice VA6 (T - F) VC6] 49)).grown hgr7 n10
                have bf7 := bx7.cell
                clear hyok two6a hown7 hgr7 hob7 hV6 hown6 hgr6 hob6 two4 b0 b1 b2 bx wM wE
                go_wp2_with fail
                go_roundw
                case rel =>
                  have hN4 := HN4.out
                  have hE5 := HE5.out
                  have hI1 := I1.out
                  have hNb3 : j * 100000 ≤ 19 * 100000 := Nat.mul_le_mul_right _ (by omega)
                  refine ⟨j + 1, T, E5, M + ((x.n : Int) - ((T : Int) - F)), Bk ++ [⟨(N4 : Int), (E5 : Int), VA6, T - F, VC6, (b.drop F).take (T - F)⟩], hlt, by go_num, rfl, ⟨by omega, by omega⟩, j4', hNb2, two7, ?_⟩
                  unfold Hid
                  refine ⟨by omega, ?_, J3.out, by rw [List.length_append, I4.out]; rfl⟩
                  rw [E2.out, List.map_append, List.append_assoc]
                  rfl
                case measure =>
                  simp [intOf]
                  omega
              · obtain rfl : j = k := by omega
                obtain ⟨i1, i2, i3, i4⟩ := hinv.out
                have hd : (S.map Ch.k).drop j = [] := List.drop_eq_nil_of_le (by rw [List.length_map, HSl.out]; exact Nat.le_refl _)
                rw [hd] at i2
                have I2 := Lib.hid i2
                obtain ⟨A10, c10, rfl, hs10⟩ := own_sl two.o10
                clear i1 i2 i3 i4 hinv hd
                go_wp2_with fail
                refine bodyPost_ret (v := .tuple #[.slice OA on OC, .slice A10 Bk.length c10, .int .i64 0]) (by simp [results, Try.results15, go_sem]) rfl ⟨hk4.trans two.k, .inr ⟨HE.out, OA, on, OC, A10, Bk.length, c10, Bk, rfl, ?_, hs10, fun x hx => (two.bk x hx).1, ?_⟩⟩
                · have hr := ref_out (S.map Ch.k) b 0 (by rw [HMB.out]; exact HLs.out)
                  rw [List.take_zero, List.nil_append] at hr
                  rw [← HMap.out, ← hr]
                  exact hO.kept two.k
                · rw [← HMap.out, I2.out]
                  exact (List.append_nil _).symm
          · obtain ⟨p, hp⟩ : ∃ p, j = p + 1 := ⟨j - 1, by omega⟩
            have hpk : p < k := by omega
            obtain ⟨bS, oS, x, rfl, hx, x0, x1, x2, hbS⟩ := elem_ch (hSr.kept hkq) hpk
            have hxm := List.mem_of_getElem? hx
            have hxo := (hokr.out x hxm).1.kept hkq
            have hxn := HBS.out x hxm
            have hxb := hxo.llen1
            have hstep : (S.map Ch.k).drop p = x.k :: (S.map Ch.k).drop j := by
              have hx' : (S.map Ch.k)[p]? = some x.k := by rw [List.getElem?_map, hx]; rfl
              obtain ⟨l2, e2⟩ := List.getElem?_eq_some_iff.1 hx'
              rw [List.drop_eq_getElem_cons l2, e2, hp]
            obtain ⟨a, hla⟩ := lies_drop _ _ _ p HLs.out
            rw [hstep] at hla
            obtain ⟨j1, j2, j3⟩ := hla
            have hol := hO.llen1
            have hge := refF_ge (b := b) (by rw [HMB.out]; exact j3)
            obtain ⟨F, hF⟩ : ∃ F : Nat, x.f = F := ⟨x.f.toNat, by have : (a : Int) ≤ x.f := j1; omega⟩
            obtain ⟨T, hT⟩ : ∃ T : Nat, x.t = T := ⟨x.t.toNat, by have : (a : Int) ≤ x.f := j1; have : x.f ≤ x.t := j2; omega⟩
            have j2' : F ≤ T := by have : x.f ≤ x.t := j2; omega
            have hkf : x.k.f.toNat = F := by show x.f.toNat = F; omega
            have hkt : x.k.t.toNat = T := by show x.t.toNat = T; omega
            rw [hkt] at hge
            have e1 : refF b ((S.map Ch.k).drop p) = (refF b ((S.map Ch.k).drop j)).take F ++ x.b ++ (refF b ((S.map Ch.k).drop j)).drop T := by
              rw [hstep, refF_cons, hkf, hkt]
              rfl
            rw [hol] at hge
            rw [hF] at x0
            rw [hT] at x1
            obtain ⟨R, hR⟩ : ∃ R, refF b ((S.map Ch.k).drop j) = R := ⟨_, rfl⟩
            rw [hR] at hO hol e1
            have E1 := Lib.hid e1
            have HR := Lib.hid hol
            have HP := Lib.hid hp
            have eji : (j : Int) - 1 = (p : Int) := by omega
            have s1 := hO.to1 (m := F) (by omega)
            have s2 := hO.from1 (i := T) hge
            have r1 := run_cut_h appT_bytes OA on OC F (by omega)
            have r2 := run_cut_l appT_bytes OA on OC T hge
            obtain ⟨C2, hC2⟩ : ∃ C, cutA OA OC T 1 = C := ⟨_, rfl⟩
            rw [hC2] at s2 r2
            have p1 : (0 : Int) ≤ F := by omega
            have p2 : (F : Int) ≤ OC := by omega
            have p3 : (0 : Int) ≤ T := by omega
            have p4 : (T : Int) ≤ on := by omega
            have p5 : (0 : Int) ≤ p := by omega
            have p6 : (p : Int) < k := by omega
            have ka := (Kept.refl wr).alloc (.cells #[] 5)
            have oa := own_lit (w := wr) (base := wr.heap.size) (e := 5) (size := 1) (n := 0) (cs := []) (by rfl) (by omega) (Nat.le_refl _)
            have hb1 : on ≤ 3000000 := by
              have : (k - j) * 100000 ≤ 19 * 100000 := Nat.mul_le_mul_right _ (by omega)
              omega
            rw [eji]
            clear hx hstep j1 j2 j3 hkf hkt e1 hR hol hp eji hC2 hF hT h0
            go_upto_region 15 with (at_builtin; refine wpList_appk wr (by rfl) _ _ (by rfl) appT_bytes (by rfl) oa ka (by rfl) (s1.kept ka) ?_ ?_; (exact ⟨ints_one _ _, by omega⟩); (intro v6 w6 hown6 hk6 hgr6 hob6))
            rw [Nat.zero_add, List.nil_append] at hown6
            have x2' := hk6.cell x2
            have x1' := hk6.cell x1
            clear hgr6 hob6
            go_upto_region 16 with (at_builtin; refine wpList_appk wr (by rfl) _ _ (by rfl) appT_bytes (by rfl) hown6 hk6 (by rfl) (hxo.kept hk6) ?_ ?_; (exact ⟨ints_one _ _, by omega⟩); (intro v7 w7 hown7 hk7 hgr7 hob7))
            have x1'' := hk7.cell x1
            clear hgr7 hob7 x1' x2'
            go_wp2_with (at_builtin; refine wpList_appk wr (by rfl) _ _ (by rfl) appT_bytes (by rfl) hown7 hk7 (by rfl) (s2.kept hk7) ?_ ?_; (exact ⟨ints_one _ _, by omega⟩); (intro v8 w8 hown8 hk8 hgr8 hob8; obtain ⟨VA8, VC8, rfl, hV8⟩ := own_sl hown8))
            clear hgr8 hob8 hown8 hown7 hown6
            go_roundw
            case rel =>
              have := HP.out
              refine ⟨p, F + x.n + (on - T), VA8, VC8, by omega, rfl, rfl, ?_, ?_, hkq.trans hk8⟩
              · have : (k - p) * 100000 = (k - j) * 100000 + 100000 := by
                  rw [show k - p = k - j + 1 by omega, Nat.add_mul]
                omega
              · rw [E1.out, List.map_append, List.map_append]
                exact hV8
            case measure =>
              have := HP.out
              simp [intOf]
end Go.Proofs.Ytdfipecgalnioaa
