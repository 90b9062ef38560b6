/- splice.Apply: walked. -/
import Derived.Test.YtdfipecgalnioaaSplU
namespace Go.Proofs.Ytdfipecgalnioaa
open Go.RowKit
attribute [local go_sem ↓] Go.wp_at_zero Go.wp_at_succ

def errA (b : List Int) (K : List Kc) : Int := if errK K = 0 then (if (lastT (srt K)).any (fun z => decide ((b.length : Int) < z)) then 3 else 0) else errK K
def AppliedOf (b : List Int) (K : List Kc) (w : World) (e : Ending) (w' : World) : Prop :=
  Kept w w' ∧ ((errA b K ≠ 0 ∧ e = .returned (.tuple #[.slice none 0 0, .slice none 0 0, .int .i64 (errA b K)])) ∨
    (errA b K = 0 ∧ ∃ (A : Option Addr) (n c : Nat) (A' : Option Addr) (n' c' : Nat) (L : List Ch), e = .returned (.tuple #[.slice A n c, .slice A' n' c', .int .i64 0]) ∧ Sl w' 1 A n c ((outF b 0 (srt K)).map (Value.int .u8)) ∧ Sl w' 3 A' n' c' (L.flatMap Ch.cells) ∧ (∀ x ∈ L, x.ok w') ∧ L.map Ch.k = backF b 0 0 (srt K)))

theorem errA_lies {b : List Int} {K : List Kc} (h : errA b K = 0) : errK K = 0 ∧ Lies 0 (srt K) b.length := by
  unfold errA at h
  have hk : errK K = 0 := by
    by_cases hk : errK K = 0
    · exact hk
    · rw [if_neg hk] at h
      exact absurd h hk
  rw [if_pos hk] at h
  refine ⟨hk, ?_⟩
  have hl : ∀ z, lastT (srt K) = some z → z ≤ b.length := by
    intro z hz
    rw [hz] at h
    simp at h
    exact h
  unfold errK at hk
  split at hk
  · rename_i hall
    split at hk
    · cases hk
    · rename_i hm
      have hall' : (srt K).all okK = true := by
        rw [List.all_eq_true] at hall ⊢
        exact fun x hx => hall x ((sortF_mem _).1 hx)
      refine lies_of (srt K) 0 b.length hall' (by simpa using hm) ?_ (Nat.zero_le _) hl
      intro c hc
      have hm := List.mem_of_mem_head? (by rw [hc]; rfl : c ∈ (srt K).head?)
      have := (List.all_eq_true.1 hall') c hm
      simp [okK] at this
      omega
  · cases hk

theorem outF_cons (b : List Int) (a : Nat) (c : Kc) (l : List Kc) : outF b a (c :: l) = (b.drop a).take (c.f.toNat - a) ++ c.b ++ outF b c.t.toNat l := rfl
theorem backF_cons (b : List Int) (n a : Nat) (c : Kc) (l : List Kc) : backF b n a (c :: l) = ⟨(n + (c.f.toNat - a) : Nat), (n + (c.f.toNat - a) + c.b.length : Nat), (b.drop c.f.toNat).take (c.t.toNat - c.f.toNat)⟩ :: backF b (n + (c.f.toNat - a) + c.b.length) c.t.toNat l := rfl
theorem not_own {v v' : Value} {w : World} {g : Nat} (h : v'.ownBlock = v.ownBlock ∨ v'.ownBlock = some w.heap.size) (hn : some g ≠ v.ownBlock) (hg : g < w.heap.size) : some g ≠ v'.ownBlock := by
  rcases h with e | e
  · rw [e]
    exact hn
  · rw [e]
    intro e
    injection e with e
    omega
theorem map_len {α : Type} {L : List Ch} {K : List α} {f : Ch → α} (h : L.map f = K) : L.length = K.length := by rw [← h, List.length_map]
theorem lastT_get : ∀ (l : List Kc), lastT l = (l[l.length - 1]?).map (·.t)
  | [] => rfl
  | [c] => rfl
  | c :: d :: l => by
    show lastT (d :: l) = _
    rw [lastT_get (d :: l)]
    simp

set_option maxRecDepth 100000 in
set_option maxHeartbeats 8000000 in
theorem apply_any (B : Option Addr) (m d : Nat) (b : List Int) (A : Option Addr) (n c : Nat) (L : List Ch) (w : World) (hB : Sl w 1 B m d (b.map (Value.int .u8))) (hm : m ≤ 100000) (h : Sl w 3 A n c (L.flatMap Ch.cells)) (hok : ∀ x ∈ L, x.ok w) (hn : n ≤ 19) (hb : ∀ x ∈ L, x.n ≤ 100000) :
    Calls Try.prog 14 #[.slice B m d, .slice A n c] w fun e w' => AppliedOf b (L.map Ch.k) w e w' := by
  have hs := sorted_any A n c L w h hok hn (fun x hx => Nat.le_trans (hb x hx) (by omega))
  have hmb := hB.llen1
  have hcap := hB.cap
  have hmax := hB.max
  have HB := Lib.hid hb
  have HOKL := Lib.hid hok
  clear hb hok
  by_cases he : errK (L.map Ch.k) = 0
  rotate_left
  · have hE : errA b (L.map Ch.k) = errK (L.map Ch.k) := by unfold errA; rw [if_neg he]
    have hs2 : Calls Try.prog 8 #[.slice A n c] w fun e w' => e = .returned (.tuple #[.slice none 0 0, .int .i64 (errK (L.map Ch.k))]) ∧ Kept w w' := by
      refine hs.mono ?_
      rintro e w' ⟨h1, ⟨_, h2⟩ | ⟨h2, _⟩⟩
      · exact ⟨h2, h1⟩
      · exact absurd h2 he
    obtain ⟨z, hz⟩ : ∃ z, errK (L.map Ch.k) = z := ⟨_, rfl⟩
    rw [hz] at hE he hs2
    have d1 : (z != 0) = true := by simpa using he
    have HE := Lib.hid hE
    have HS := Lib.hid hs2
    clear hz hs hs2 hE
    go_enter Try.func14, Try.ntmps14
    go_wp2_with fail
    refine HS.out.mono ?_
    rintro e w1 ⟨rfl, hk1⟩
    go_wp2_with fail
    exact bodyPost_ret (v := .tuple #[.slice none 0 0, .slice none 0 0, .int .i64 z]) (by simp [results, Try.results14, go_sem]) rfl ⟨hk1, .inl ⟨by rw [HE.out]; exact he, by rw [HE.out]⟩⟩
  · have hs2 : Calls Try.prog 8 #[.slice A n c] w fun e w' => ∃ (A : Option Addr) (n c : Nat) (S : List Ch), e = .returned (.tuple #[.slice A n c, .int .i64 0]) ∧ Sl w' 3 A n c (S.flatMap Ch.cells) ∧ (∀ x ∈ S, x.ok w') ∧ S.map Ch.k = srt (L.map Ch.k) ∧ Kept w w' := by
      refine hs.mono ?_
      rintro e w' ⟨h1, ⟨h2, _⟩ | ⟨_, A, n, c, S, h3, h4, h5, h6⟩⟩
      · exact absurd he h2
      · exact ⟨A, n, c, S, h3, h4, h5, h6, h1⟩
    have HS := Lib.hid hs2
    have HEK := Lib.hid he
    clear hs hs2 he
    by_cases hl : errA b (L.map Ch.k) = 0
    rotate_left
    · have hE : errA b (L.map Ch.k) = 3 ∧ ∃ z, lastT (srt (L.map Ch.k)) = some z ∧ (m : Int) < z := by
        unfold errA at hl ⊢
        rw [if_pos HEK.out] at hl ⊢
        cases hz : lastT (srt (L.map Ch.k)) with
        | none => rw [hz] at hl; exact absurd rfl hl
        | some z =>
          rw [hz] at hl
          by_cases hlt : (b.length : Int) < z
          · exact ⟨by simp [hlt], z, rfl, by omega⟩
          · exact absurd (by simp; omega) hl
      obtain ⟨hE, z, hz, hzm⟩ := hE
      have HE := Lib.hid hE
      have HZ := Lib.hid hz
      clear hE hz hl
      go_enter Try.func14, Try.ntmps14
      go_wp2_with fail
      refine HS.out.mono ?_
      rintro e w1 ⟨A1, n1, c1, S, rfl, hS, hok, hmap, hk1⟩
      have hz := HZ.out
      rw [← hmap, lastT_get, List.length_map] at hz
      have hSl := hS.llen (enc := Ch.cells) (fun _ => rfl) (by omega)
      rw [hSl] at hz
      have hn1 : 0 < n1 := by
        rcases Nat.eq_zero_or_pos n1 with h0 | h0
        · rw [List.getElem?_eq_none (by rw [List.length_map]; omega)] at hz
          cases hz
        · exact h0
      obtain ⟨b1, o1, x, rfl, hx, x0, x1, _, hb1⟩ := elem_ch hS (k := n1 - 1) (by omega)
      rw [List.getElem?_map, hx] at hz
      have hxz : x.t = z := by simpa [Ch.k] using hz
      obtain ⟨p, hp⟩ : ∃ p, n1 = p + 1 := ⟨n1 - 1, by omega⟩
      rw [show n1 - 1 = p by omega] at x1
      rw [hxz] at x1
      have c1' := hS.cap
      have c2' := hS.max
      have wj : IntKind.i64.wrap ((n1 : Int) - 1) = (p : Int) := by rw [IntWalk.i64_in _ (by omega)]; omega
      have l1 : (0 : Int) ≤ (p : Int) := by omega
      have l2 : (p : Int) < n1 := by omega
      have d1 : decide ((0 : Int) < n1) = true := by simp; omega
      clear x0 hx hz hxz hp hSl hok hmap
      go_wp2_with fail
      exact bodyPost_ret (v := .tuple #[.slice none 0 0, .slice none 0 0, .int .i64 3]) (by simp [results, Try.results14, go_sem]) rfl ⟨hk1, .inl ⟨by rw [HE.out]; decide, by rw [HE.out]⟩⟩
    · obtain ⟨_, hlies⟩ := errA_lies hl
      have HE := Lib.hid hl
      have HLs := Lib.hid hlies
      clear hl hlies
      go_enter Try.func14, Try.ntmps14
      go_wp2_with fail
      refine HS.out.mono ?_
      rintro e w1 ⟨A1, n1, c1, S, rfl, hS, hok, hmap, hk1⟩
      have hSl := hS.llen (enc := Ch.cells) (fun _ => rfl) (by omega)
      have c1' := hS.cap
      have c2' := hS.max
      have HMap := Lib.hid hmap
      have HOk := Lib.hid hok
      have HSl := Lib.hid hSl
      clear hmap hok hSl
      go_upto_region 5 with fail
      go_cut [38] (fun s wx => s = .bool false ∧ wx = w1)
      case first =>
        rcases Nat.eq_zero_or_pos n1 with h0 | hn1
        · have d1 : decide ((0 : Int) < n1) = false := by simp; omega
          go_wp2_with fail
          go_meet
          exact ⟨rfl, rfl⟩
        · have hz := lies_last _ _ _ HLs.out
          rw [← HMap.out, lastT_get, List.length_map, HSl.out] at hz
          obtain ⟨b1, o1, x, rfl, hx, x0, x1, _, hb1⟩ := elem_ch hS (k := n1 - 1) (by omega)
          rw [List.getElem?_map, hx] at hz
          have hxm := hz x.t rfl
          obtain ⟨p, hp⟩ : ∃ p, n1 = p + 1 := ⟨n1 - 1, by omega⟩
          rw [show n1 - 1 = p by omega] at x1
          have wj : IntKind.i64.wrap ((n1 : Int) - 1) = (p : Int) := by rw [IntWalk.i64_in _ (by omega)]; omega
          have l1 : (0 : Int) ≤ (p : Int) := by omega
          have l2 : (p : Int) < n1 := by omega
          have d1 : decide ((0 : Int) < n1) = true := by simp; omega
          have d2 : decide ((m : Int) < x.t) = false := by simp; omega
          clear x0 hx hp hz
          go_wp2_with fail
          go_meet
          exact ⟨rfl, rfl⟩
      case rest =>
        obtain ⟨rfl, rfl⟩ := hcut
        have hBS : ∀ y ∈ S, y.n ≤ 100000 := by
          intro y hy
          have h1 : y.k ∈ srt (L.map Ch.k) := by rw [← HMap.out]; exact List.mem_map.2 ⟨y, hy, rfl⟩
          obtain ⟨x, hx, e⟩ := List.mem_map.1 ((sortF_mem _).1 h1)
          have e1 : x.b = y.b := congrArg Kc.b e
          have h2 := (HOKL.out x hx).1.llen1
          have h3 := (HOk.out y hy).1.llen1
          have h4 := HB.out x hx
          rw [← h3, ← e1, h2]
          exact h4
        have hn1 : n1 ≤ 19 := by
          have e1 := map_len HMap.out
          have e2 : (srt (L.map Ch.k)).length = L.length := by unfold srt; rw [sortF_len, List.length_map]
          have e3 := h.llen (enc := Ch.cells) (fun _ => rfl) (by omega)
          have e4 := HSl.out
          omega
        have HBS := Lib.hid hBS
        have HMB := Lib.hid hmb
        have hBc := hB.kept hk1
        clear hBS hB h hmb
        go_wp2_with fail
        go_loopw [9, 10, 11, 41] (fun v9 v10 s11 s41 wr => ∃ (k a : Nat) (O : List Int) (Bk : List Ch), k ≤ n1 ∧ s41 = .int .i64 k ∧ s11 = .int .i64 a ∧ a ≤ m ∧ O.length ≤ a + k * 100000 ∧ Two wc wr 5 44 v9 v10 O Bk ∧
          Hid (outF b 0 (S.map Ch.k) = O ++ outF b a ((S.map Ch.k).drop k) ∧ backF b 0 0 (S.map Ch.k) = Bk.map Ch.k ++ backF b O.length a ((S.map Ch.k).drop k) ∧ Lies a ((S.map Ch.k).drop k) m ∧ Bk.length = k)) (fun _ _ _ s41 _ => n1 - (intOf s41).toNat)
        case atStart => exact ⟨0, 0, [], [], Nat.zero_le _, rfl, rfl, Nat.zero_le _, Nat.zero_le _, Two.start (Kept.refl _), by unfold Hid; exact ⟨rfl, rfl, by rw [List.drop_zero, HMap.out, ← HMB.out]; exact HLs.out, rfl⟩⟩
        case round =>
          obtain ⟨k, a, O, Bk, hk, rfl, rfl, ham, hOl, two, hinv⟩ := hrel
          by_cases hlt : k < n1
          · obtain ⟨bS, oS, x, rfl, hx, x0, x1, x2, hbS⟩ := elem_ch (hS.kept two.k) hlt
            have hxm := List.mem_of_getElem? hx
            have hxo := (HOk.out x hxm).1.kept two.k
            have hxn := HBS.out x hxm
            have hxb := hxo.llen1
            have hstep : (S.map Ch.k).drop k = x.k :: (S.map Ch.k).drop (k + 1) := by
              have hx' : (S.map Ch.k)[k]? = some x.k := by rw [List.getElem?_map, hx]; rfl
              obtain ⟨l2, e2⟩ := List.getElem?_eq_some_iff.1 hx'
              rw [List.drop_eq_getElem_cons l2, e2]
            obtain ⟨i1, i2, i3, i4⟩ := hinv.out
            rw [hstep] at i1 i2 i3
            obtain ⟨j1, j2, j3⟩ := i3
            have j4 := lies_le _ _ _ j3
            obtain ⟨F, hF⟩ : ∃ F : Nat, x.f = F := ⟨x.f.toNat, by have : (a : Int) ≤ x.f := j1; omega⟩
            obtain ⟨T, hT⟩ : ∃ T : Nat, x.t = T := ⟨x.t.toNat, by have : (a : Int) ≤ x.f := j1; have : x.f ≤ x.t := j2; omega⟩
            have j1' : a ≤ F := by have : (a : Int) ≤ x.f := j1; omega
            have j2' : F ≤ T := by have : x.f ≤ x.t := j2; omega
            have j4' : T ≤ m := by have : x.t.toNat ≤ m := j4; omega
            have hkf : x.k.f.toNat = F := by show x.f.toNat = F; omega
            have hkt : x.k.t.toNat = T := by show x.t.toNat = T; omega
            have e1 : outF b 0 (S.map Ch.k) = O ++ ((b.drop a).take (F - a) ++ (x.b ++ outF b T ((S.map Ch.k).drop (k + 1)))) := by
              rw [i1, outF_cons, hkf, hkt, List.append_assoc]
              rfl
            have e2 : backF b 0 0 (S.map Ch.k) = Bk.map Ch.k ++ (⟨((O.length + (F - a) : Nat) : Int), ((O.length + (F - a) + x.b.length : Nat) : Int), (b.drop F).take (T - F)⟩ :: backF b (O.length + (F - a) + x.b.length) T ((S.map Ch.k).drop (k + 1))) := by
              rw [i2, backF_cons, hkf, hkt]
              rfl
            rw [hkt] at j3
            rw [hF] at x0
            rw [hT] at x1
            have E1 := Lib.hid e1
            have E2 := Lib.hid e2
            have J3 := Lib.hid j3
            have I4 := Lib.hid i4
            clear e1 e2 j3 i4 i1 i2 j1 j2 j4 hkf hkt hstep hinv hx hF hT
            have hc1 := run_cut_lh appT_bytes B m d a F j1' (by omega)
            have hc2 := run_cut_lh appT_bytes B m d F T j2' (by omega)
            have q1 := (hBc.kept two.k).cut1 (i := a) (m := F) j1' (by omega)
            have q2 := (hBc.kept two.k).cut1 (i := F) (m := T) j2' (by omega)
            obtain ⟨C1, hC1⟩ : ∃ C, cutA B d a 1 = C := ⟨_, rfl⟩
            obtain ⟨C2, hC2⟩ : ∃ C, cutA B d F 1 = C := ⟨_, rfl⟩
            rw [hC1] at hc1 q1
            rw [hC2] at hc2 q2
            have HC2 := Lib.hid hC2
            clear hC1 hC2
            have p1 : (0 : Int) ≤ a := by omega
            have p2 : (a : Int) ≤ F := by omega
            have p3 : (F : Int) ≤ d := by omega
            have p4 : (F : Int) ≤ T := by omega
            have p5 : (T : Int) ≤ d := by omega
            have p6 : (0 : Int) ≤ F := by omega
            have k1 : Kept wr _ := (Kept.refl wr).alloc (.cells #[.int .i64 F, .int .i64 T, .slice x.A x.n x.c] 44)
            have bx := Blk.new wr #[.int .i64 F, .int .i64 T, .slice x.A x.n x.c] 44
            go_upto_region 13 with fail
            generalize wr.alloc (.cells #[.int .i64 F, .int .i64 T, .slice x.A x.n x.c] 44) = w3 at k1 bx ⊢
            obtain ⟨g3, hg3⟩ : ∃ g3, wr.heap.size = g3 := ⟨_, rfl⟩
            have n9 : some g3 ≠ u9.ownBlock := by
              intro e
              have := two.o9.lt _ e.symm
              omega
            have n10 : some g3 ≠ u10.ownBlock := by
              intro e
              have := two.o10.lt _ e.symm
              omega
            rw [hg3] at bx ⊢
            have two3 := two.kept k1
            have q1' := q1.kept k1
            have bf := bx.cell
            go_upto_region 15 with (at_builtin; refine wpList_appk wc (by rfl) _ _ (by rfl) appT_bytes (by rfl) two3.o9 two3.k (by rfl) q1' ?_ ?_; (exact ⟨ints_one _ _, by omega⟩); (intro v4 w4 hown4 hk4 hgr4 hob4; obtain ⟨VA4, VC4, rfl, hV4⟩ := own_sl hown4; have two4 := two3.push9 (by have := HMB.out; rw [List.length_take, List.length_drop]; omega) hown4 hk4 hgr4 hob4; have bx4 := bx.grown hgr4 n9; have n94 := not_own hob4 n9 bx.lt; have bf4 := bx4.cell))
            have hxo4 := (HOk.out x hxm).1.kept hk4
            have hl4 : (O ++ (b.drop a).take (F - a)).length = O.length + (F - a) := by
              have := HMB.out
              rw [List.length_append, List.length_take, List.length_drop]
              omega
            obtain ⟨O4, hO4⟩ : ∃ z, O ++ (b.drop a).take (F - a) = z := ⟨_, rfl⟩
            rw [hO4] at two4 hl4
            obtain ⟨N4, hN4⟩ : ∃ z, O.length + (F - a) = z := ⟨_, rfl⟩
            have hcast : (O.length : Int) + ((F - a : Nat) : Int) = (N4 : Int) := by omega
            have o4 := two4.o9
            rw [hN4] at two4 hl4 o4 hV4 n94 ⊢
            rw [hl4] at o4
            have hN4b : N4 ≤ 100000 + 19 * 100000 := by omega
            have HO4 := Lib.hid hO4
            have HN4 := Lib.hid hN4
            have HL4 := Lib.hid hl4
            clear hown4 hob4 hgr4 hO4 hN4 hl4 hV4 two3 q1' q1 hc1 bf bx
            rw [hcast]
            clear hcast
            go_upto_region 16 with (at_builtin; refine wpList_appk wc (by rfl) _ _ (by rfl) appT_bytes (by rfl) o4 two4.k (by rfl) hxo4 ?_ ?_; (exact ⟨ints_one _ _, by omega⟩); (intro v5 w5 hown5 hk5 hgr5 hob5; obtain ⟨VA5, VC5, rfl, hV5⟩ := own_sl hown5; have two5 := two4.push9 (by rw [hxb]) (by rw [HL4.out]; exact hown5) hk5 hgr5 hob5; have bx5 := bx4.grown hgr5 n94; have n95 := not_own hob5 n94 bx4.lt; have bf5 := bx5.cell))
            have b0 : w5.cell? ⟨g3, 0, none⟩ = some (.int .i64 F) := bf5 0
            have b1 : w5.cell? ⟨g3, 1, none⟩ = some (.int .i64 T) := bf5 1
            have q5 := (hBc.kept two5.k).cut1 (i := F) (m := T) j2' (by omega)
            rw [show cutA B d F 1 = C2 from HC2.out] at q5
            have i4 := I4.out
            obtain ⟨E5, hE5⟩ : ∃ z, N4 + x.n = z := ⟨_, rfl⟩
            have hcast5 : (N4 : Int) + (x.n : Int) = (E5 : Int) := by omega
            rw [hE5] at hV5 two5 n95 ⊢
            have HE5 := Lib.hid hE5
            clear hE5 hown5 hob5 hgr5 bf5 bf4 hV5 o4
            try rw [hcast5]
            clear hcast5
            go_wp2_with fail
            refine (clone_any _ _ _ _ _ q5 (by omega)).mono ?_
            rintro e w6 ⟨VA6, VC6, rfl, hV6, hVf6, hk6⟩
            have two6 := two5.kept hk6
            have bx6 := bx5.kept hk6
            go_upto_region 17 with (at_builtin; refine wpList_push wc (by rfl) _ _ (by rfl) appT_chs (by rfl) two6.o10 two6.k (by rfl) (by exact ⟨by rfl, by rfl, by rfl, by omega⟩) ?_; intro v7 w7 hown7 hk7 hgr7 hob7)
            have two6a := two6.kept ((Kept.refl _).alloc (.cells #[.int .i64 N4, .int .i64 E5, .slice VA6 (T - F) VC6] 44))
            have hsz5 := hk6.size
            have hyok : (⟨(N4 : Int), (E5 : Int), VA6, T - F, VC6, (b.drop F).take (T - F)⟩ : Ch).ok (w6.alloc (.cells #[.int .i64 N4, .int .i64 E5, .slice VA6 (T - F) VC6] 44)) ∧ ∀ b' o', (⟨(N4 : Int), (E5 : Int), VA6, T - F, VC6, (b.drop F).take (T - F)⟩ : Ch).A = some ⟨b', o', none⟩ → some b' ≠ (Value.slice VA5 E5 VC5).ownBlock ∧ some b' ≠ u10.ownBlock ∧ b' < (w6.alloc (.cells #[.int .i64 N4, .int .i64 E5, .slice VA6 (T - F) VC6] 44)).heap.size := by
              have := HE5.out
              refine ⟨⟨hV6.kept ((Kept.refl _).alloc _), ⟨by dsimp only; omega, by dsimp only; omega⟩, ⟨by dsimp only; omega, by dsimp only; omega⟩⟩, fun b' o' e => ?_⟩
              obtain ⟨f1, f2⟩ := hVf6 b' o' e
              refine ⟨?_, ?_, by simp; omega⟩
              · intro e
                have := (two5.o9.lt _ e.symm).2
                omega
              · intro e
                have := (two5.o10.lt _ e.symm).2
                omega
            have two7 := two6a.push10 hyok hown7 hk7 hgr7 (by simpa using hob7)
            have bx7 := (bx6.alloc (.cells #[.int .i64 N4, .int .i64 E5, .slice VA6 (T - F) VC6] 44)).grown hgr7 n10
            have bf7 := bx7.cell
            clear hyok two6a two6 two5 two4 hown7 hgr7 hob7 bx6 bx5 bx4 hV6 hVf6 b0 b1 q5 hxo4 hxo
            go_wp2_with fail
            go_roundw
            case rel =>
              have hO4 := HO4.out
              have hN4 := HN4.out
              have hL4 := HL4.out
              have hE5 := HE5.out
              refine ⟨k + 1, T, O4 ++ x.b, Bk ++ [⟨(N4 : Int), (E5 : Int), VA6, T - F, VC6, (b.drop F).take (T - F)⟩], hlt, by go_num, rfl, j4', ?_, two7, ?_⟩
              · rw [List.length_append]
                omega
              · unfold Hid
                refine ⟨by rw [E1.out, ← hO4, List.append_assoc, List.append_assoc], ?_, J3.out, by rw [List.length_append]; simp; omega⟩
                rw [E2.out, List.map_append, List.append_assoc, hN4, hxb, hE5, List.length_append, hL4, hxb, hE5]
                rfl
            case measure =>
              simp [intOf]
              omega
          · obtain rfl : k = n1 := by omega
            obtain ⟨i1, i2, i3, i4⟩ := hinv.out
            have hd : (S.map Ch.k).drop k = [] := List.drop_eq_nil_of_le (by rw [List.length_map, HSl.out]; exact Nat.le_refl _)
            rw [hd] at i1 i2
            have hcl := run_cut_l appT_bytes B m d a ham
            have q := (hBc.kept two.k).from1 (i := a) ham
            obtain ⟨C1, hC1⟩ : ∃ C, cutA B d a 1 = C := ⟨_, rfl⟩
            rw [hC1] at hcl q
            have I1 := Lib.hid i1
            have I2 := Lib.hid i2
            obtain ⟨A10, c10, rfl, hs10⟩ := own_sl two.o10
            clear i1 i2 i3 i4 hinv hd hC1 hS
            go_wp2_with (at_builtin; refine wpList_appk wc (by rfl) _ _ (by rfl) appT_bytes (by rfl) two.o9 two.k (by rfl) q ?_ ?_; (exact ⟨ints_one _ _, by omega⟩); (intro v4 w4 hown4 hk4 hgr4 hob4; obtain ⟨VA4, VC4, rfl, hV4⟩ := own_sl hown4; have two4 := two.push9 (by have := HMB.out; rw [List.length_drop]; omega) hown4 hk4 hgr4 hob4))
            refine bodyPost_ret (v := .tuple #[.slice VA4 (O.length + (m - a)) VC4, .slice A10 Bk.length c10, .int .i64 0]) (by simp [results, Try.results14, go_sem]) rfl ⟨hk1.trans hk4, .inr ⟨HE.out, VA4, _, VC4, A10, _, c10, Bk, rfl, ?_, ?_, fun x hx => (two4.bk x hx).1, ?_⟩⟩
            · rw [← HMap.out, I1.out, List.map_append]
              exact hV4
            · obtain ⟨A', c', e, h⟩ := own_sl two4.o10
              injection e with e1 e2 e3
              subst e1 e3
              exact h
            · rw [← HMap.out, I2.out]
              exact (List.append_nil _).symm
end Go.Proofs.Ytdfipecgalnioaa
