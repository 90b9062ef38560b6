/- A node as the document's: walked. -/
import Derived.Test.YtnlncamiaddhfaaInfU
namespace Go.Proofs.Ytnlncamiaddhfaa
open Go.RowKit
attribute [local go_sem ↓] Go.wp_at_zero Go.wp_at_succ

set_option maxHeartbeats 8000000 in
theorem plain_any (x : Nd) : ∀ w : World, x.ok w → Small x.tr → Calls Try.prog 12 #[x.val] w fun e w' => MadeOf x w e w' := by
  induction x using Nd.ind with
  | h k n bA bn bc bs aA an ac al t g kA kn kc ks ih =>
  intro w hok hsm
  obtain ⟨hb, ha, h, hks⟩ := hok.parts
  have IH := Lib.hid ih
  have HKS := Lib.hid hks
  have HSM := Lib.hid hsm
  clear ih hks hok hsm
  have hcap := h.cap
  have hmax := h.max
  have hbc := hb.cap
  have hbm := hb.max
  have hac := ha.cap
  have ham := ha.max
  show Calls Try.prog 12 #[.agg #[.int .i64 k, .string n.u, .string n.l, .string n.p, .slice bA bn bc, .slice aA an ac, .string t, .string g, .slice kA kn kc]] w _
  have k1 := ((Kept.refl w).alloc (.cells (ndc k n bA bn bc aA an ac t g kA kn kc) 36)).alloc (.cells znd 28)
  have b1 := (Blk.new w (ndc k n bA bn bc aA an ac t g kA kn kc) 36).alloc (.cells znd 28)
  have z1 := Blk.new (w.alloc (.cells (ndc k n bA bn bc aA an ac t g kA kn kc) 36)) znd 28
  go_enter Try.func12, Try.ntmps12
  go_upto_region 1 with fail
  generalize (w.alloc (.cells (ndc k n bA bn bc aA an ac t g kA kn kc) 36)).alloc (.cells znd 28) = w1 at k1 b1 z1 ⊢
  have z1' : Blk w1 (w.heap.size + 1) znd 28 := by simpa using z1
  clear z1
  obtain ⟨g1, hg1⟩ : ∃ g1, w.heap.size = g1 := ⟨_, rfl⟩
  obtain ⟨g2, hg2⟩ : ∃ g2, w.heap.size + 1 = g2 := ⟨_, rfl⟩
  rw [hg2] at z1' ⊢
  rw [hg1] at b1 ⊢
  have hw1 : w.heap.size ≤ g1 := by omega
  have hw2 : w.heap.size ≤ g2 := by omega
  have h12 : g1 ≠ g2 := by omega
  clear hg1 hg2
  have bf := b1.cell
  have b0 : w1.cell? ⟨g1, 0, none⟩ = some (.int .i64 k) := bf 0
  have b1' : w1.cell? ⟨g1, 1, none⟩ = some (.string n.u) := bf 1
  have b2 : w1.cell? ⟨g1, 2, none⟩ = some (.string n.l) := bf 2
  have b3 : w1.cell? ⟨g1, 3, none⟩ = some (.string n.p) := bf 3
  have b6 : w1.cell? ⟨g1, 6, none⟩ = some (.string t) := bf 6
  have b7 : w1.cell? ⟨g1, 7, none⟩ = some (.string g) := bf 7
  have bl := b1.lt
  go_cut [3] (fun s wx => ∃ g3, s = .pointer (some ⟨g3, 0, none⟩) ∧ w1.heap.size ≤ g3 ∧ Blk wx g3 (ndc k n none 0 0 none 0 0 t g none 0 0) 28 ∧ Kept w1 wx)
  case first =>
    go_wp2_with fail
    go_meet
    exact ⟨_, rfl, Nat.le_refl _, Blk.new w1 _ _, (Kept.refl w1).alloc _⟩
  case rest =>
    obtain ⟨g3, rfl, hg3, b3x, k3⟩ := hcut
    obtain ⟨wM, hWM⟩ : ∃ z, z = wc := ⟨_, rfl⟩
    subst hWM
    obtain ⟨Bz, hBz⟩ : ∃ Bz, wM.heap.size = Bz := ⟨_, rfl⟩
    have fr : Fr w wM g1 g2 g3 Bz (ndc k n bA bn bc aA an ac t g kA kn kc) (ndc k n none 0 0 none 0 0 t g none 0 0) 36 28 :=
      ⟨b1.kept k3, z1'.kept k3, b3x, k1.trans k3, by omega, by have := z1'.lt; have := b3x.lt; have := k3.size; have := k1.size; omega⟩
    clear b1 z1' b3x k1 k3 bf b0 b1' b2 b3 b6 b7 bl hg3 hw1 hw2 h12
    have fc := fr.b1.cell
    go_wp2_with fail
    go_loopw [30] (fun i wr => ∃ (j : Nat) (VA : Option Addr) (VC : Nat), j ≤ bn ∧ i = .int .i64 j ∧ wr.ownsRow w.heap.size 60 2 (.slice VA j VC) j ((bs.take j).flatMap Bd.cells) ∧ (∀ q, (Value.slice VA j VC).ownBlock = some q → Bz ≤ q) ∧
      Fr w wr g1 g2 g3 Bz (ndc k n bA bn bc aA an ac t g kA kn kc) (ndc k n VA j VC none 0 0 t g none 0 0) 36 28) (fun i _ => bn - (intOf i).toNat)
    case atStart => exact ⟨0, none, 0, Nat.zero_le _, rfl, ⟨rfl, .inl ⟨rfl, rfl⟩⟩, fun q hq => (by simp [Value.ownBlock] at hq), fr⟩
    case round =>
      clear fr fc
      obtain ⟨j, VA, VC, hj, rfl, hown, hlow, fr⟩ := hrel
      by_cases hlt : j < bn
      · obtain ⟨b, o, x, rfl, hx, hxc, hxb⟩ := (hb.kept fr.k).elemb (enc := Bd.cells) (fun _ => rfl) (by omega) hlt
        have x0 : wr.cell? ⟨b, o + j * 2, none⟩ = some (.string x.p) := hxc 0 _ rfl
        have x1 : wr.cell? ⟨b, o + j * 2 + 1, none⟩ = some (.string x.u) := hxc 1 _ rfl
        have HX := Lib.hid hx
        clear hx hxc
        have kb : Kept wr _ := (Kept.refl wr).alloc (.cells #[.string x.p, .string x.u] 61)
        have bx := Blk.new wr #[.string x.p, .string x.u] 61
        have hbl := hb.llen (enc := Bd.cells) (fun _ => rfl) (by omega)
        have hj1000 : j + 1 ≤ 1000 := by
          have := HSM.out
          rw [Nd.tr_mk] at this
          cases this
          omega
        go_upto_region 5 with fail
        generalize wr.alloc (.cells #[.string x.p, .string x.u] 61) = w3 at kb bx ⊢
        obtain ⟨g7, hg7⟩ : ∃ g7, wr.heap.size = g7 := ⟨_, rfl⟩
        rw [hg7] at bx ⊢
        clear hg7 x0 x1
        have own3 := own_kept hown kb
        have fr3 := fr.kept kb
        have bf := bx.cell
        have cf : w3.cell? ⟨g3, 4, none⟩ = some (.slice VA j VC) := fr3.b3.cell 4
        have hb4 : ∀ (o : Obj) (w5 : World), (w3.alloc o).grownBy w5 (Value.slice VA j VC).ownBlock → w5.cell? ⟨g3, 4, none⟩ = some (.slice VA j VC) ∧ (∀ i, w5.frozen? ⟨g3, i, none⟩ = false) ∧ g3 < w5.heap.size := fun o w5 h5 => by
          have fr5 := (fr3.kept ((Kept.refl w3).alloc o)).grown h5 hlow
          exact ⟨fr5.b3.cell 4, fr5.b3.frozen, fr5.b3.lt⟩
        go_wp2_with (at_builtin; refine wpList_push w (by rfl) _ _ (by rfl) appT_rbd (by rfl) own3 fr3.k (by rfl) ?_ ?_; (exact ⟨by simp, rfl, rfl, by omega⟩); intro v5 w5 hown5 hk5 hgr5 hob5; obtain ⟨VA5, VC5, rfl, hV5⟩ := Sl.of_own hown5; obtain ⟨s4, s5, s6⟩ := hb4 _ w5 hgr5)
        have low5 := low_push hlow fr3.z hob5
        have fr5 := ((fr3.kept ((Kept.refl w3).alloc _)).grown hgr5 hlow).set 4 (.slice VA5 (j + 1) VC5)
        have own6 := own_set1 (g := g3) (i := 4) (u := .slice VA5 (j + 1) VC5) hown5 low5 fr.l.2.2.2.2.2.1
        clear hgr5 hob5 hV5 s4 s5 s6 hb4 cf bf own3
        go_roundw
        case rel =>
          refine ⟨j + 1, VA5, VC5, hlt, by go_num, ?_, low5, by simpa using fr5⟩
          rw [List.take_add_one, HX.out, List.flatMap_append]
          exact own6
        case measure =>
          simp [intOf]
          omega
      · obtain rfl : j = bn := by omega
        obtain ⟨wN, hWN⟩ : ∃ z, z = wr := ⟨_, rfl⟩
        subst hWN
        obtain ⟨Bz2, hBz2⟩ : ∃ z, wN.heap.size = z := ⟨_, rfl⟩
        have hbl := hb.llen (enc := Bd.cells) (fun _ => rfl) (by omega)
        rw [List.take_of_length_le (l := bs) (by omega)] at hown
        have hbS := sl_own hown
        have hbo : ∀ b o, 0 < j → VA = some ⟨b, o, none⟩ → Bz ≤ b ∧ b < Bz2 := fun b o hn e => by
          have h1 := hlow b (by rw [e]; rfl)
          have h2 := hbS.lt (by omega) hn b o e
          omega
        have HBO := Lib.hid hbo
        have hz2 := fr.z
        clear hown hlow hbo hb
        have fc := fr.b1.cell
        go_wp2_with fail
        go_loopw [48] (fun s wr => ∃ (i : Nat) (UA : Option Addr) (UC : Nat), i ≤ an ∧ s = .int .i64 i ∧ wr.ownsRow w.heap.size 63 5 (.slice UA i UC) i ((al.take i).flatMap Att.cells) ∧ (∀ q, (Value.slice UA i UC).ownBlock = some q → Bz2 ≤ q) ∧ Sl wr 2 VA j VC (bs.flatMap Bd.cells) ∧ Bz2 ≤ wr.heap.size ∧
          Fr w wr g1 g2 g3 Bz (ndc k n bA j bc aA an ac t g kA kn kc) (ndc k n VA j VC UA i UC t g none 0 0) 36 28) (fun s _ => an - (intOf s).toNat)
        case atStart => exact ⟨0, none, 0, Nat.zero_le _, rfl, ⟨rfl, .inl ⟨rfl, rfl⟩⟩, fun q hq => (by simp [Value.ownBlock] at hq), hbS, by omega, fr⟩
        case round =>
          clear fr fc hbS
          obtain ⟨i, UA, UC, hi, rfl, hown, hlow, hbS, hz3, fr⟩ := hrel
          by_cases hlt : i < an
          · obtain ⟨b, o, x, rfl, hx, hxc, hxb⟩ := (ha.kept fr.k).elemb (enc := Att.cells) (fun _ => rfl) (by omega) hlt
            have x0 : wr.cell? ⟨b, o + i * 5, none⟩ = some (.string x.n.u) := hxc 0 _ rfl
            have x1 : wr.cell? ⟨b, o + i * 5 + 1, none⟩ = some (.string x.n.l) := hxc 1 _ rfl
            have x2 : wr.cell? ⟨b, o + i * 5 + 2, none⟩ = some (.string x.n.p) := hxc 2 _ rfl
            have x3 : wr.cell? ⟨b, o + i * 5 + 3, none⟩ = some (.string x.v) := hxc 3 _ rfl
            have x4 : wr.cell? ⟨b, o + i * 5 + 4, none⟩ = some (.bool x.h) := hxc 4 _ rfl
            have HX := Lib.hid hx
            clear hx hxc
            have kb : Kept wr _ := (Kept.refl wr).alloc (.cells #[.string x.n.u, .string x.n.l, .string x.n.p, .string x.v, .bool x.h] 65)
            have bx := Blk.new wr #[.string x.n.u, .string x.n.l, .string x.n.p, .string x.v, .bool x.h] 65
            have hal := ha.llen (enc := Att.cells) (fun _ => rfl) (by omega)
            have hi1000 : i + 1 ≤ 1000 := by
              have := HSM.out
              rw [Nd.tr_mk] at this
              cases this
              omega
            go_upto_region 10 with fail
            generalize wr.alloc (.cells #[.string x.n.u, .string x.n.l, .string x.n.p, .string x.v, .bool x.h] 65) = w3 at kb bx ⊢
            obtain ⟨g7, hg7⟩ : ∃ g7, wr.heap.size = g7 := ⟨_, rfl⟩
            rw [hg7] at bx ⊢
            have own3 := own_kept hown kb
            have fr3 := fr.kept kb
            have hbS3 := hbS.kept kb
            have hz5 := Nat.le_trans hz3 kb.size
            have hg37 : g7 ≠ g3 := by
              have := fr.l.2.2.2.2.2.1
              have := fr.z
              omega
            have ne7 : some g7 ≠ (Value.slice UA i UC).ownBlock := by
              intro e
              have := (hown.lt g7 e.symm).2
              omega
            have cf : w3.cell? ⟨g3, 5, none⟩ = some (.slice UA i UC) := fr3.b3.cell 5
            have fl3 := fr3.b3.lt
            have ff3 := fr3.b3.frozen
            clear hg7 x0 x1 x2 x3 x4
            have hlow' : ∀ q, (Value.slice UA i UC).ownBlock = some q → Bz ≤ q := fun q hq => by
              have := hlow q hq
              omega
            have bf := bx.cell
            have hb5 : ∀ (o : Obj) (w5 : World), (w3.alloc o).grownBy w5 (Value.slice UA i UC).ownBlock → w5.cell? ⟨g3, 5, none⟩ = some (.slice UA i UC) ∧ (∀ q, w5.frozen? ⟨g3, q, none⟩ = false) ∧ g3 < w5.heap.size := fun o w5 h5 => by
              have fr5 := (fr3.kept ((Kept.refl w3).alloc o)).grown h5 hlow'
              exact ⟨fr5.b3.cell 5, fr5.b3.frozen, fr5.b3.lt⟩
            go_wp2_with (at_builtin; refine wpList_push w (by rfl) _ _ (by rfl) appT_ratt (by rfl) own3 fr3.k (by rfl) ?_ ?_; (exact ⟨by simp, rfl, rfl, by omega⟩); intro v5 w5 hown5 hk5 hgr5 hob5; obtain ⟨UA5, UC5, rfl, hU5⟩ := Sl.of_own hown5; obtain ⟨s4, s5, s6⟩ := hb5 _ w5 hgr5)
            have fr5 := (fr3.kept ((Kept.refl w3).alloc _)).grown hgr5 hlow'
            have low5 := low_push hlow hz5 hob5
            have fr6 := fr5.set 5 (.slice UA5 (i + 1) UC5)
            have own6 := own_set1 (g := g3) (i := 5) (u := .slice UA5 (i + 1) UC5) hown5 low5 (by have := fr.l.2.2.2.2.2.1; omega)
            have hbS5 := (hbS3.kept ((Kept.refl w3).alloc _)).grown0 hgr5 (fun b' o' hn e => by
              have h1 := HBO.out b' o' hn e
              intro e'
              have := hlow b' e'.symm
              omega)
            have hbS6 := hbS5.grown0 (grown_set1 w5 g3 5 (.slice UA5 (i + 1) UC5)) (fun b' o' hn e => by
              have h1 := HBO.out b' o' hn e
              have h2 := fr.l.2.2.2.2.2.1
              intro e'
              injection e' with e'
              omega)
            have hz6 : Bz2 ≤ w5.heap.size := by
              have h1 := hgr5.size
              rw [World.size_alloc] at h1
              omega
            clear hgr5 hob5 hU5 s4 s5 s6 hb5 cf bf own3
            go_roundw
            case rel =>
              refine ⟨i + 1, UA5, UC5, hlt, by go_num, ?_, low5, hbS6, by simpa using hz6, by simpa using fr6⟩
              rw [List.take_add_one, HX.out, List.flatMap_append]
              exact own6
            case measure =>
              simp [intOf]
              omega
          · obtain rfl : i = an := by omega
            obtain ⟨wP, hWP⟩ : ∃ z, z = wr := ⟨_, rfl⟩
            subst hWP
            have hal := ha.llen (enc := Att.cells) (fun _ => rfl) (by omega)
            rw [List.take_of_length_le (l := al) (by omega)] at hown
            have haS := sl_own hown
            have hao : ∀ b o, 0 < i → UA = some ⟨b, o, none⟩ → Bz ≤ b ∧ b < wP.heap.size := fun b o hn e => by
              have h1 := hlow b (by rw [e]; rfl)
              have h2 := haS.lt (by omega) hn b o e
              omega
            have HAO := Lib.hid hao
            have hzP := fr.z
            have hbS' := hbS
            have hL := h.llen Nd.cells_len (by omega)
            have HL := Lib.hid hL
            have hB2 : Bz2 ≤ wP.heap.size := hz3
            clear hown hlow hao ha hL
            have fc := fr.b1.cell
            go_wp2_with fail
            go_loopw [76] (fun s wr => ∃ (q : Nat) (KA : Option Addr) (KC : Nat) (O : List Nd), q ≤ kn ∧ s = .int .i64 q ∧ wr.ownsRow w.heap.size 28 9 (.slice KA q KC) q (O.flatMap Nd.cells) ∧ (∀ g', (Value.slice KA q KC).ownBlock = some g' → wP.heap.size ≤ g') ∧ Own wP wr 0 (.slice KA q KC) O ∧ Hid (O.map Nd.tr = (ks.map Nd.tr).take q) ∧ Sl wr 2 VA j VC (bs.flatMap Bd.cells) ∧ Sl wr 5 UA i UC (al.flatMap Att.cells) ∧ wP.heap.size ≤ wr.heap.size ∧
              Fr w wr g1 g2 g3 Bz (ndc k n bA j bc aA i ac t g kA kn kc) (ndc k n VA j VC UA i UC t g KA q KC) 36 28) (fun s _ => kn - (intOf s).toNat)
            case atStart => exact ⟨0, none, 0, [], Nat.zero_le _, rfl, ⟨rfl, .inl ⟨rfl, rfl⟩⟩, fun q hq => (by simp [Value.ownBlock] at hq), Own.nil _ _ _ _, rfl, hbS, haS, Nat.le_refl _, fr⟩
            case round =>
              clear fr fc hbS haS hbS'
              obtain ⟨q, KA, KC, O, hq, rfl, hown, low3, HO, HI, hbS, haS, hz4, fr⟩ := hrel
              by_cases hlt : q < kn
              · obtain ⟨b, o, yk, yn, ybA, ybn, ybc, ybs, yaA, yan, yac, yal, yt, yg, ykA, ykn, ykc, yks, rfl, hy, y0, y1, y2, y3, y4, y5, y6, y7, y8, hb'⟩ := cells9 (h.kept fr.k) hlt
                have hyo := (HKS.out _ (List.mem_of_getElem? hy)).kept fr.k
                have hih := IH.out _ (List.mem_of_getElem? hy)
                have hyt := map_get (f := Nd.tr) hy
                have hsm := HSM.out
                rw [Nd.tr_mk] at hsm
                have hq100 : ks.length ≤ 100 ∧ ∀ x ∈ ks.map Nd.tr, Small x := by
                  cases hsm with
                  | mk h1 h2 h3 h4 => exact ⟨by simpa using h3, h4⟩
                have hq1000 : q + 1 ≤ 1000 := by
                  have := hq100.1
                  have := HL.out
                  omega
                have hys := hq100.2 _ (List.mem_of_getElem? hyt)
                have HYT := Lib.hid hyt
                clear hsm hq100 hyt hy
                have kb := (Kept.refl wr).alloc (.cells (ndc yk yn ybA ybn ybc yaA yan yac yt yg ykA ykn ykc) 36)
                have bx := Blk.new wr (ndc yk yn ybA ybn ybc yaA yan yac yt yg ykA ykn ykc) 36
                go_upto_region 15 with fail
                generalize wr.alloc (.cells (ndc yk yn ybA ybn ybc yaA yan yac yt yg ykA ykn ykc) 36) = w3 at kb bx ⊢
                obtain ⟨g7, hg7⟩ : ∃ g7, wr.heap.size = g7 := ⟨_, rfl⟩
                rw [hg7] at bx ⊢
                have own3 := own_kept hown kb
                have fr3 := fr.kept kb
                have hbS3 := hbS.kept kb
                have haS3 := haS.kept kb
                have HO3 := HO.kept kb
                have hyo3 := hyo.kept kb
                have hz5 := Nat.le_trans hz4 kb.size
                have hg37 : g7 ≠ g3 := by
                  have := fr.l.2.2.2.2.2.1
                  have := fr.z
                  omega
                have ne7 : some g7 ≠ (Value.slice KA q KC).ownBlock := by
                  intro e
                  have := (hown.lt g7 e.symm).2
                  omega
                have lowb : ∀ g', (Value.slice KA q KC).ownBlock = some g' → wP.heap.size ≤ g' ∧ g' < w3.heap.size := fun g' e => ⟨low3 g' e, by
                  have := (hown.lt g' e).2
                  have := kb.size
                  omega⟩
                have cf : w3.cell? ⟨g3, 8, none⟩ = some (.slice KA q KC) := fr3.b3.cell 8
                have fl3 := fr3.b3.lt
                have ff3 := fr3.b3.frozen
                clear hg7 y0 y1 y2 y3 y4 y5 y6 y7 y8
                have MK : Hid (∀ w', Blk w' g7 (ndc yk yn ybA ybn ybc yaA yan yac yt yg ykA ykn ykc) 36 → w'.cell? ⟨g7, 0, none⟩ = some (.int .i64 yk) ∧ w'.cell? ⟨g7, 1, none⟩ = some (.string yn.u) ∧ w'.cell? ⟨g7, 2, none⟩ = some (.string yn.l) ∧ w'.cell? ⟨g7, 3, none⟩ = some (.string yn.p) ∧ w'.cell? ⟨g7, 4, none⟩ = some (.slice ybA ybn ybc) ∧ w'.cell? ⟨g7, 5, none⟩ = some (.slice yaA yan yac) ∧ w'.cell? ⟨g7, 6, none⟩ = some (.string yt) ∧ w'.cell? ⟨g7, 7, none⟩ = some (.string yg) ∧ w'.cell? ⟨g7, 8, none⟩ = some (.slice ykA ykn ykc) ∧ g7 < w'.heap.size) :=
                  fun w' bk => ⟨bk.cell 0, bk.cell 1, bk.cell 2, bk.cell 3, bk.cell 4, bk.cell 5, bk.cell 6, bk.cell 7, bk.cell 8, bk.lt⟩
                have hlow' : ∀ g', (Value.slice KA q KC).ownBlock = some g' → Bz ≤ g' := fun g' hg => by
                  have := low3 g' hg
                  omega
                refine wp_region_held_drew (S := fun w' => w'.cell? ⟨g7, 0, none⟩ = some (.int .i64 yk) ∧ w'.cell? ⟨g7, 1, none⟩ = some (.string yn.u) ∧ w'.cell? ⟨g7, 2, none⟩ = some (.string yn.l) ∧ w'.cell? ⟨g7, 3, none⟩ = some (.string yn.p) ∧ w'.cell? ⟨g7, 4, none⟩ = some (.slice ybA ybn ybc) ∧ w'.cell? ⟨g7, 5, none⟩ = some (.slice yaA yan yac) ∧ w'.cell? ⟨g7, 6, none⟩ = some (.string yt) ∧ w'.cell? ⟨g7, 7, none⟩ = some (.string yg) ∧ w'.cell? ⟨g7, 8, none⟩ = some (.slice ykA ykn ykc) ∧ g7 < w'.heap.size) (by kernel_rfl) (MK.out _ bx.drew) (fun hHeld => ?_)
                skip
                refine wpAnyH_take (i := 0) (oi := { dst := some 80, op := Op.fieldAddr 28 (Operand.tmp 3) 6, type := 0, pos := "law.go:39", after := #[], guard := none }) (v := ?vvp1) rfl (by kernel_rfl) (by kernel_rfl) (by kernel_rfl) (fun _ _ _ h => h) (Or.inl ⟨by rfl, ?hyp1⟩) (by assumption) ?restp1
                case hyp1 => (intro wS hSw; (try dsimp only at hSw); (repeat (obtain ⟨_, hSw⟩ := hSw)); go_simp; try (with_reducible rfl))
                try simp only [Act.put, List.setIfInBounds_toArray, List.set_cons_zero, List.set_cons_succ]
                refine wpAnyH_take (i := 2) (oi := { dst := some 82, op := Op.load 36 (Operand.tmp 9), type := 36, pos := "law.go:39", after := #[], guard := none }) (v := ?vvp2) rfl (by kernel_rfl) (by kernel_rfl) (by kernel_rfl) (fun _ _ _ h => h) (Or.inl ⟨by rfl, ?hyp2⟩) (by assumption) ?restp2
                case hyp2 => (intro wS hSw; (try dsimp only at hSw); (repeat (obtain ⟨_, hSw⟩ := hSw)); go_simp; try (with_reducible rfl))
                try simp only [Act.put, List.setIfInBounds_toArray, List.set_cons_zero, List.set_cons_succ]
                refine wpAnyH_ready (rs := [1, 3]) (by kernel_rfl) (by simp) ?_
                refine AllReadyH.cons (o := { dst := some 81, op := Op.load 26 (Operand.tmp 80), type := 26, pos := "law.go:39", after := #[{ on := 0, ground := Ground.data }], guard := none }) rfl (fun K hK => ?stepp3) ?morep3
                case stepp3 =>
                  go_simp
                  refine hK.out _ _ (by first | (refine MK.out _ ?_; repeat (first | (with_reducible exact bx) | (with_reducible refine Blk.drew ?_) | (with_reducible refine Blk.alloc ?_ _) | (with_reducible refine Blk.kept ?_ hk4) | (with_reducible refine Blk.grown ?_ hgr5 ne7) | (refine Blk.far ?_ hg37 _)))) (fun hHeld => ?_)
                  clear hK K
                  try simp only [Act.put, List.setIfInBounds_toArray, List.set_cons_zero, List.set_cons_succ]
                  refine wpAnyH_ready (rs := [3]) (by kernel_rfl) (by simp) ?_
                  refine AllReadyH.cons (o := { dst := some 83, op := Op.call { callee := Callee.value (Operand.func 12), args := #[Operand.tmp 82], argTypes := #[36] }, type := 28, pos := "law.go:39", after := #[{ on := 2, ground := Ground.data }], guard := none }) rfl (fun K hK => ?stepp4) ?morep4
                  case stepp4 =>
                    go_simp
                    go_at_call 12
                    refine (hih _ (hyo3.kept (Kept.refl w3).drew) hys).mono ?_
                    rintro e w4 ⟨y, rfl, yok, ytr, yout, hk4⟩
                    have HY := Lib.hid (show _ ∧ _ ∧ _ from ⟨yok, ytr, yout⟩)
                    clear yok ytr yout
                    obtain ⟨zk, zn, zbA, zbn, zbc, zbs, zaA, zan, zac, zal, zt, zg, zkA, zkn, zkc, zks⟩ := y
                    rw [Nd.val_mk]
                    have k34 : Kept w3 w4 := Kept.trans (Kept.refl w3).drew hk4
                    have cf4 : w4.cell? ⟨g3, 8, none⟩ = some (.slice KA q KC) := k34.cell cf
                    have fl4 : g3 < w4.heap.size := Nat.lt_of_lt_of_le fl3 k34.size
                    go_wp2_with fail
                    refine hK.out _ _ (by first | (refine MK.out _ ?_; repeat (first | (with_reducible exact bx) | (with_reducible refine Blk.drew ?_) | (with_reducible refine Blk.alloc ?_ _) | (with_reducible refine Blk.kept ?_ hk4) | (with_reducible refine Blk.grown ?_ hgr5 ne7) | (refine Blk.far ?_ hg37 _)))) (fun hHeld => ?_)
                    clear hK K
                    try simp only [Act.put, List.setIfInBounds_toArray, List.set_cons_zero, List.set_cons_succ]
                    refine wpAnyH_ready (rs := [4]) (by kernel_rfl) (by simp) ?_
                    refine AllReadyH.cons (o := { dst := some 84, op := Op.buildSlice 26 1 #[(0, Operand.tmp 83)], type := 26, pos := "law.go:39", after := #[{ on := 3, ground := Ground.data }], guard := none }) rfl (fun K hK => ?stepp5) ?morep5
                    case stepp5 =>
                      go_simp
                      refine hK.out _ _ (by first | (refine MK.out _ ?_; repeat (first | (with_reducible exact bx) | (with_reducible refine Blk.drew ?_) | (with_reducible refine Blk.alloc ?_ _) | (with_reducible refine Blk.kept ?_ hk4) | (with_reducible refine Blk.grown ?_ hgr5 ne7) | (refine Blk.far ?_ hg37 _)))) (fun hHeld => ?_)
                      clear hK K
                      try simp only [Act.put, List.setIfInBounds_toArray, List.set_cons_zero, List.set_cons_succ]
                      refine wpAnyH_ready (rs := [5]) (by kernel_rfl) (by simp) ?_
                      refine AllReadyH.cons (o := { dst := some 85, op := Op.call { callee := Callee.builtin Builtin.append, args := #[Operand.tmp 81, Operand.tmp 84], argTypes := #[26, 26] }, type := 26, pos := "law.go:39", after := #[{ on := 1, ground := Ground.data }, { on := 4, ground := Ground.data }, { on := 3, ground := Ground.chain }], guard := none }) rfl (fun K hK => ?stepp6) ?morep6
                      case stepp6 =>
                        refine step_app w (by rfl) _ _ (by rfl) appT_rnd (by rfl) ((own_kept own3 k34).alloc _) ((fr3.k.trans k34).alloc _) (by rfl) (Sl.litg (by rfl) (by rfl) (by omega)) ⟨by rfl, by omega⟩ ?_
                        intro v5 w5 hown5 hk5 hgr5 hob5
                        have fr5 := ((fr3.kept k34).kept ((Kept.refl w4).alloc _)).grown hgr5 hlow'
                        have s4 : w5.cell? ⟨g3, 8, none⟩ = some (.slice KA q KC) := fr5.b3.cell 8
                        have s5 := fr5.b3.frozen
                        have s6 := fr5.b3.lt
                        obtain ⟨KA5, KC5, rfl, hU5⟩ := Sl.of_own hown5
                        refine hK.out _ _ (by first | (refine MK.out _ ?_; repeat (first | (with_reducible exact bx) | (with_reducible refine Blk.drew ?_) | (with_reducible refine Blk.alloc ?_ _) | (with_reducible refine Blk.kept ?_ hk4) | (with_reducible refine Blk.grown ?_ hgr5 ne7) | (refine Blk.far ?_ hg37 _)))) (fun hHeld => ?_)
                        clear hK K
                        try simp only [Act.put, List.setIfInBounds_toArray, List.set_cons_zero, List.set_cons_succ]
                        refine wpAnyH_take (i := 6) (oi := { dst := some 86, op := Op.fieldAddr 28 (Operand.tmp 3) 6, type := 0, pos := "law.go:39", after := #[{ on := 0, ground := Ground.phase }, { on := 1, ground := Ground.phase }, { on := 2, ground := Ground.phase }, { on := 3, ground := Ground.phase }, { on := 4, ground := Ground.phase }, { on := 5, ground := Ground.phase }], guard := none }) (v := ?vvp7) rfl (by kernel_rfl) (by kernel_rfl) (by kernel_rfl) (fun _ _ _ h => h) (Or.inl ⟨by rfl, ?hyp7⟩) (by assumption) ?restp7
                        case hyp7 => (intro wS hSw; (try dsimp only at hSw); (repeat (obtain ⟨_, hSw⟩ := hSw)); go_simp; try (with_reducible rfl))
                        try simp only [Act.put, List.setIfInBounds_toArray, List.set_cons_zero, List.set_cons_succ]
                        refine wpAnyH_ready (rs := [7]) (by kernel_rfl) (by simp) ?_
                        refine AllReadyH.cons (o := { dst := none, op := Op.store 26 (Operand.tmp 86) (Operand.tmp 85), type := 0, pos := "law.go:39", after := #[{ on := 6, ground := Ground.data }, { on := 5, ground := Ground.data }, { on := 5, ground := Ground.chain }, { on := 0, ground := Ground.phase }, { on := 1, ground := Ground.phase }, { on := 2, ground := Ground.phase }, { on := 3, ground := Ground.phase }, { on := 4, ground := Ground.phase }, { on := 5, ground := Ground.phase }], guard := none }) rfl (fun K hK => ?stepp8) ?morep8
                        case stepp8 =>
                          go_simp
                          refine hK.out _ _ (by first | (refine MK.out _ ?_; repeat (first | (with_reducible exact bx) | (with_reducible refine Blk.drew ?_) | (with_reducible refine Blk.alloc ?_ _) | (with_reducible refine Blk.kept ?_ hk4) | (with_reducible refine Blk.grown ?_ hgr5 ne7) | (refine Blk.far ?_ hg37 _)))) (fun hHeld => ?_)
                          clear hK K
                          try simp only [Act.put, List.setIfInBounds_toArray, List.set_cons_zero, List.set_cons_succ]
                          refine wpAnyH_done (by kernel_rfl) ?_ _
                          have hob6 : (Value.slice KA5 (q + 1) KC5).ownBlock = (Value.slice KA q KC).ownBlock ∨ (Value.slice KA5 (q + 1) KC5).ownBlock = some (w4.heap.size + 1) := by simpa using hob5
                          have low5 := low_push low3 (Nat.le_trans hz5 k34.size) hob6
                          have fr6 := fr5.set 8 (.slice KA5 (q + 1) KC5)
                          have own6 := own_set1 (g := g3) (i := 8) (u := .slice KA5 (q + 1) KC5) hown5 low5 (by have := fr.l.2.2.2.2.2.1; omega)
                          have hbS5 := ((hbS3.kept k34).kept ((Kept.refl w4).alloc _)).grown0 hgr5 (fun b' o' hn e => by
                            have h1 := HBO.out b' o' hn e
                            intro e'
                            have := low3 b' e'.symm
                            omega)
                          have hbS6 := hbS5.grown0 (grown_set1 w5 g3 8 (.slice KA5 (q + 1) KC5)) (fun b' o' hn e => by
                            have h1 := HBO.out b' o' hn e
                            have h2 := fr.l.2.2.2.2.2.1
                            intro e'
                            injection e' with e'
                            omega)
                          have haS5 := ((haS3.kept k34).kept ((Kept.refl w4).alloc _)).grown0 hgr5 (fun b' o' hn e => by
                            have h1 := HAO.out b' o' hn e
                            intro e'
                            have := low3 b' e'.symm
                            omega)
                          have haS6 := haS5.grown0 (grown_set1 w5 g3 8 (.slice KA5 (q + 1) KC5)) (fun b' o' hn e => by
                            have h1 := HAO.out b' o' hn e
                            have h2 := fr.l.2.2.2.2.2.1
                            intro e'
                            injection e' with e'
                            omega)
                          have HO5 := Own.push (wc := w3) (HO3.kept k34) (Nat.zero_le _) HY.out.1 (HY.out.2.2.mono (fun b hb => Or.inr hb)) hz5 lowb hgr5 hob6
                          have HO6 : Own wP (w5.setCell ⟨g3, 8, none⟩ (.slice KA5 (q + 1) KC5)) 0 (.slice KA5 (q + 1) KC5) (O ++ [Nd.mk zk zn zbA zbn zbc zbs zaA zan zac zal zt zg zkA zkn zkc zks]) := fun x hx => ⟨(HO5 x hx).1.grown (grown_set1 w5 g3 8 _) ((HO5 x hx).2.mono (fun b hb => by
                            have h2 := fr.l.2.2.2.2.2.1
                            intro e'
                            injection e' with e'
                            omega)), (HO5 x hx).2⟩
                          have hz6 : wP.heap.size ≤ w5.heap.size := by
                            have h1 := hgr5.size
                            have h2 := k34.size
                            rw [World.size_alloc] at h1
                            omega
                          go_wp2_with fail
                          go_roundw
                          case rel =>
                            refine ⟨q + 1, KA5, KC5, O ++ [Nd.mk zk zn zbA zbn zbc zbs zaA zan zac zal zt zg zkA zkn zkc zks], hlt, by go_num, ?_, low5, HO6, ?_, hbS6, haS6, by simpa using hz6, by simpa using fr6⟩
                            · rw [List.flatMap_append]
                              exact own6
                            · unfold Hid
                              rw [List.map_append, HI.out, List.map_singleton, List.take_add_one, HYT.out, HY.out.2.1]
                              rfl
                          case measure =>
                            simp [intOf]
                            omega
                        exact AllReadyH.nil
                      exact AllReadyH.nil
                    exact AllReadyH.nil
                  exact AllReadyH.nil
                refine AllReadyH.cons (o := { dst := some 83, op := Op.call { callee := Callee.value (Operand.func 12), args := #[Operand.tmp 82], argTypes := #[36] }, type := 28, pos := "law.go:39", after := #[{ on := 2, ground := Ground.data }], guard := none }) rfl (fun K hK => ?stepp9) ?morep9
                case stepp9 =>
                  go_simp
                  go_at_call 12
                  refine (hih _ (hyo3.kept (Kept.refl w3).drew) hys).mono ?_
                  rintro e w4 ⟨y, rfl, yok, ytr, yout, hk4⟩
                  have HY := Lib.hid (show _ ∧ _ ∧ _ from ⟨yok, ytr, yout⟩)
                  clear yok ytr yout
                  obtain ⟨zk, zn, zbA, zbn, zbc, zbs, zaA, zan, zac, zal, zt, zg, zkA, zkn, zkc, zks⟩ := y
                  rw [Nd.val_mk]
                  have k34 : Kept w3 w4 := Kept.trans (Kept.refl w3).drew hk4
                  have cf4 : w4.cell? ⟨g3, 8, none⟩ = some (.slice KA q KC) := k34.cell cf
                  have fl4 : g3 < w4.heap.size := Nat.lt_of_lt_of_le fl3 k34.size
                  go_wp2_with fail
                  refine hK.out _ _ (by first | (refine MK.out _ ?_; repeat (first | (with_reducible exact bx) | (with_reducible refine Blk.drew ?_) | (with_reducible refine Blk.alloc ?_ _) | (with_reducible refine Blk.kept ?_ hk4) | (with_reducible refine Blk.grown ?_ hgr5 ne7) | (refine Blk.far ?_ hg37 _)))) (fun hHeld => ?_)
                  clear hK K
                  try simp only [Act.put, List.setIfInBounds_toArray, List.set_cons_zero, List.set_cons_succ]
                  refine wpAnyH_ready (rs := [1, 4]) (by kernel_rfl) (by simp) ?_
                  refine AllReadyH.cons (o := { dst := some 81, op := Op.load 26 (Operand.tmp 80), type := 26, pos := "law.go:39", after := #[{ on := 0, ground := Ground.data }], guard := none }) rfl (fun K hK => ?stepp10) ?morep10
                  case stepp10 =>
                    go_simp
                    refine hK.out _ _ (by first | (refine MK.out _ ?_; repeat (first | (with_reducible exact bx) | (with_reducible refine Blk.drew ?_) | (with_reducible refine Blk.alloc ?_ _) | (with_reducible refine Blk.kept ?_ hk4) | (with_reducible refine Blk.grown ?_ hgr5 ne7) | (refine Blk.far ?_ hg37 _)))) (fun hHeld => ?_)
                    clear hK K
                    try simp only [Act.put, List.setIfInBounds_toArray, List.set_cons_zero, List.set_cons_succ]
                    refine wpAnyH_ready (rs := [4]) (by kernel_rfl) (by simp) ?_
                    refine AllReadyH.cons (o := { dst := some 84, op := Op.buildSlice 26 1 #[(0, Operand.tmp 83)], type := 26, pos := "law.go:39", after := #[{ on := 3, ground := Ground.data }], guard := none }) rfl (fun K hK => ?stepp11) ?morep11
                    case stepp11 =>
                      go_simp
                      refine hK.out _ _ (by first | (refine MK.out _ ?_; repeat (first | (with_reducible exact bx) | (with_reducible refine Blk.drew ?_) | (with_reducible refine Blk.alloc ?_ _) | (with_reducible refine Blk.kept ?_ hk4) | (with_reducible refine Blk.grown ?_ hgr5 ne7) | (refine Blk.far ?_ hg37 _)))) (fun hHeld => ?_)
                      clear hK K
                      try simp only [Act.put, List.setIfInBounds_toArray, List.set_cons_zero, List.set_cons_succ]
                      refine wpAnyH_ready (rs := [5]) (by kernel_rfl) (by simp) ?_
                      refine AllReadyH.cons (o := { dst := some 85, op := Op.call { callee := Callee.builtin Builtin.append, args := #[Operand.tmp 81, Operand.tmp 84], argTypes := #[26, 26] }, type := 26, pos := "law.go:39", after := #[{ on := 1, ground := Ground.data }, { on := 4, ground := Ground.data }, { on := 3, ground := Ground.chain }], guard := none }) rfl (fun K hK => ?stepp12) ?morep12
                      case stepp12 =>
                        refine step_app w (by rfl) _ _ (by rfl) appT_rnd (by rfl) ((own_kept own3 k34).alloc _) ((fr3.k.trans k34).alloc _) (by rfl) (Sl.litg (by rfl) (by rfl) (by omega)) ⟨by rfl, by omega⟩ ?_
                        intro v5 w5 hown5 hk5 hgr5 hob5
                        have fr5 := ((fr3.kept k34).kept ((Kept.refl w4).alloc _)).grown hgr5 hlow'
                        have s4 : w5.cell? ⟨g3, 8, none⟩ = some (.slice KA q KC) := fr5.b3.cell 8
                        have s5 := fr5.b3.frozen
                        have s6 := fr5.b3.lt
                        obtain ⟨KA5, KC5, rfl, hU5⟩ := Sl.of_own hown5
                        refine hK.out _ _ (by first | (refine MK.out _ ?_; repeat (first | (with_reducible exact bx) | (with_reducible refine Blk.drew ?_) | (with_reducible refine Blk.alloc ?_ _) | (with_reducible refine Blk.kept ?_ hk4) | (with_reducible refine Blk.grown ?_ hgr5 ne7) | (refine Blk.far ?_ hg37 _)))) (fun hHeld => ?_)
                        clear hK K
                        try simp only [Act.put, List.setIfInBounds_toArray, List.set_cons_zero, List.set_cons_succ]
                        refine wpAnyH_take (i := 6) (oi := { dst := some 86, op := Op.fieldAddr 28 (Operand.tmp 3) 6, type := 0, pos := "law.go:39", after := #[{ on := 0, ground := Ground.phase }, { on := 1, ground := Ground.phase }, { on := 2, ground := Ground.phase }, { on := 3, ground := Ground.phase }, { on := 4, ground := Ground.phase }, { on := 5, ground := Ground.phase }], guard := none }) (v := ?vvp13) rfl (by kernel_rfl) (by kernel_rfl) (by kernel_rfl) (fun _ _ _ h => h) (Or.inl ⟨by rfl, ?hyp13⟩) (by assumption) ?restp13
                        case hyp13 => (intro wS hSw; (try dsimp only at hSw); (repeat (obtain ⟨_, hSw⟩ := hSw)); go_simp; try (with_reducible rfl))
                        try simp only [Act.put, List.setIfInBounds_toArray, List.set_cons_zero, List.set_cons_succ]
                        refine wpAnyH_ready (rs := [7]) (by kernel_rfl) (by simp) ?_
                        refine AllReadyH.cons (o := { dst := none, op := Op.store 26 (Operand.tmp 86) (Operand.tmp 85), type := 0, pos := "law.go:39", after := #[{ on := 6, ground := Ground.data }, { on := 5, ground := Ground.data }, { on := 5, ground := Ground.chain }, { on := 0, ground := Ground.phase }, { on := 1, ground := Ground.phase }, { on := 2, ground := Ground.phase }, { on := 3, ground := Ground.phase }, { on := 4, ground := Ground.phase }, { on := 5, ground := Ground.phase }], guard := none }) rfl (fun K hK => ?stepp14) ?morep14
                        case stepp14 =>
                          go_simp
                          refine hK.out _ _ (by first | (refine MK.out _ ?_; repeat (first | (with_reducible exact bx) | (with_reducible refine Blk.drew ?_) | (with_reducible refine Blk.alloc ?_ _) | (with_reducible refine Blk.kept ?_ hk4) | (with_reducible refine Blk.grown ?_ hgr5 ne7) | (refine Blk.far ?_ hg37 _)))) (fun hHeld => ?_)
                          clear hK K
                          try simp only [Act.put, List.setIfInBounds_toArray, List.set_cons_zero, List.set_cons_succ]
                          refine wpAnyH_done (by kernel_rfl) ?_ _
                          have hob6 : (Value.slice KA5 (q + 1) KC5).ownBlock = (Value.slice KA q KC).ownBlock ∨ (Value.slice KA5 (q + 1) KC5).ownBlock = some (w4.heap.size + 1) := by simpa using hob5
                          have low5 := low_push low3 (Nat.le_trans hz5 k34.size) hob6
                          have fr6 := fr5.set 8 (.slice KA5 (q + 1) KC5)
                          have own6 := own_set1 (g := g3) (i := 8) (u := .slice KA5 (q + 1) KC5) hown5 low5 (by have := fr.l.2.2.2.2.2.1; omega)
                          have hbS5 := ((hbS3.kept k34).kept ((Kept.refl w4).alloc _)).grown0 hgr5 (fun b' o' hn e => by
                            have h1 := HBO.out b' o' hn e
                            intro e'
                            have := low3 b' e'.symm
                            omega)
                          have hbS6 := hbS5.grown0 (grown_set1 w5 g3 8 (.slice KA5 (q + 1) KC5)) (fun b' o' hn e => by
                            have h1 := HBO.out b' o' hn e
                            have h2 := fr.l.2.2.2.2.2.1
                            intro e'
                            injection e' with e'
                            omega)
                          have haS5 := ((haS3.kept k34).kept ((Kept.refl w4).alloc _)).grown0 hgr5 (fun b' o' hn e => by
                            have h1 := HAO.out b' o' hn e
                            intro e'
                            have := low3 b' e'.symm
                            omega)
                          have haS6 := haS5.grown0 (grown_set1 w5 g3 8 (.slice KA5 (q + 1) KC5)) (fun b' o' hn e => by
                            have h1 := HAO.out b' o' hn e
                            have h2 := fr.l.2.2.2.2.2.1
                            intro e'
                            injection e' with e'
                            omega)
                          have HO5 := Own.push (wc := w3) (HO3.kept k34) (Nat.zero_le _) HY.out.1 (HY.out.2.2.mono (fun b hb => Or.inr hb)) hz5 lowb hgr5 hob6
                          have HO6 : Own wP (w5.setCell ⟨g3, 8, none⟩ (.slice KA5 (q + 1) KC5)) 0 (.slice KA5 (q + 1) KC5) (O ++ [Nd.mk zk zn zbA zbn zbc zbs zaA zan zac zal zt zg zkA zkn zkc zks]) := fun x hx => ⟨(HO5 x hx).1.grown (grown_set1 w5 g3 8 _) ((HO5 x hx).2.mono (fun b hb => by
                            have h2 := fr.l.2.2.2.2.2.1
                            intro e'
                            injection e' with e'
                            omega)), (HO5 x hx).2⟩
                          have hz6 : wP.heap.size ≤ w5.heap.size := by
                            have h1 := hgr5.size
                            have h2 := k34.size
                            rw [World.size_alloc] at h1
                            omega
                          go_wp2_with fail
                          go_roundw
                          case rel =>
                            refine ⟨q + 1, KA5, KC5, O ++ [Nd.mk zk zn zbA zbn zbc zbs zaA zan zac zal zt zg zkA zkn zkc zks], hlt, by go_num, ?_, low5, HO6, ?_, hbS6, haS6, by simpa using hz6, by simpa using fr6⟩
                            · rw [List.flatMap_append]
                              exact own6
                            · unfold Hid
                              rw [List.map_append, HI.out, List.map_singleton, List.take_add_one, HYT.out, HY.out.2.1]
                              rfl
                          case measure =>
                            simp [intOf]
                            omega
                        exact AllReadyH.nil
                      exact AllReadyH.nil
                    exact AllReadyH.nil
                  refine AllReadyH.cons (o := { dst := some 84, op := Op.buildSlice 26 1 #[(0, Operand.tmp 83)], type := 26, pos := "law.go:39", after := #[{ on := 3, ground := Ground.data }], guard := none }) rfl (fun K hK => ?stepp15) ?morep15
                  case stepp15 =>
                    go_simp
                    refine hK.out _ _ (by first | (refine MK.out _ ?_; repeat (first | (with_reducible exact bx) | (with_reducible refine Blk.drew ?_) | (with_reducible refine Blk.alloc ?_ _) | (with_reducible refine Blk.kept ?_ hk4) | (with_reducible refine Blk.grown ?_ hgr5 ne7) | (refine Blk.far ?_ hg37 _)))) (fun hHeld => ?_)
                    clear hK K
                    try simp only [Act.put, List.setIfInBounds_toArray, List.set_cons_zero, List.set_cons_succ]
                    refine wpAnyH_ready (rs := [1]) (by kernel_rfl) (by simp) ?_
                    refine AllReadyH.cons (o := { dst := some 81, op := Op.load 26 (Operand.tmp 80), type := 26, pos := "law.go:39", after := #[{ on := 0, ground := Ground.data }], guard := none }) rfl (fun K hK => ?stepp16) ?morep16
                    case stepp16 =>
                      go_simp
                      refine hK.out _ _ (by first | (refine MK.out _ ?_; repeat (first | (with_reducible exact bx) | (with_reducible refine Blk.drew ?_) | (with_reducible refine Blk.alloc ?_ _) | (with_reducible refine Blk.kept ?_ hk4) | (with_reducible refine Blk.grown ?_ hgr5 ne7) | (refine Blk.far ?_ hg37 _)))) (fun hHeld => ?_)
                      clear hK K
                      try simp only [Act.put, List.setIfInBounds_toArray, List.set_cons_zero, List.set_cons_succ]
                      refine wpAnyH_ready (rs := [5]) (by kernel_rfl) (by simp) ?_
                      refine AllReadyH.cons (o := { dst := some 85, op := Op.call { callee := Callee.builtin Builtin.append, args := #[Operand.tmp 81, Operand.tmp 84], argTypes := #[26, 26] }, type := 26, pos := "law.go:39", after := #[{ on := 1, ground := Ground.data }, { on := 4, ground := Ground.data }, { on := 3, ground := Ground.chain }], guard := none }) rfl (fun K hK => ?stepp17) ?morep17
                      case stepp17 =>
                        refine step_app w (by rfl) _ _ (by rfl) appT_rnd (by rfl) ((own_kept own3 k34).alloc _) ((fr3.k.trans k34).alloc _) (by rfl) (Sl.litg (by rfl) (by rfl) (by omega)) ⟨by rfl, by omega⟩ ?_
                        intro v5 w5 hown5 hk5 hgr5 hob5
                        have fr5 := ((fr3.kept k34).kept ((Kept.refl w4).alloc _)).grown hgr5 hlow'
                        have s4 : w5.cell? ⟨g3, 8, none⟩ = some (.slice KA q KC) := fr5.b3.cell 8
                        have s5 := fr5.b3.frozen
                        have s6 := fr5.b3.lt
                        obtain ⟨KA5, KC5, rfl, hU5⟩ := Sl.of_own hown5
                        refine hK.out _ _ (by first | (refine MK.out _ ?_; repeat (first | (with_reducible exact bx) | (with_reducible refine Blk.drew ?_) | (with_reducible refine Blk.alloc ?_ _) | (with_reducible refine Blk.kept ?_ hk4) | (with_reducible refine Blk.grown ?_ hgr5 ne7) | (refine Blk.far ?_ hg37 _)))) (fun hHeld => ?_)
                        clear hK K
                        try simp only [Act.put, List.setIfInBounds_toArray, List.set_cons_zero, List.set_cons_succ]
                        refine wpAnyH_take (i := 6) (oi := { dst := some 86, op := Op.fieldAddr 28 (Operand.tmp 3) 6, type := 0, pos := "law.go:39", after := #[{ on := 0, ground := Ground.phase }, { on := 1, ground := Ground.phase }, { on := 2, ground := Ground.phase }, { on := 3, ground := Ground.phase }, { on := 4, ground := Ground.phase }, { on := 5, ground := Ground.phase }], guard := none }) (v := ?vvp18) rfl (by kernel_rfl) (by kernel_rfl) (by kernel_rfl) (fun _ _ _ h => h) (Or.inl ⟨by rfl, ?hyp18⟩) (by assumption) ?restp18
                        case hyp18 => (intro wS hSw; (try dsimp only at hSw); (repeat (obtain ⟨_, hSw⟩ := hSw)); go_simp; try (with_reducible rfl))
                        try simp only [Act.put, List.setIfInBounds_toArray, List.set_cons_zero, List.set_cons_succ]
                        refine wpAnyH_ready (rs := [7]) (by kernel_rfl) (by simp) ?_
                        refine AllReadyH.cons (o := { dst := none, op := Op.store 26 (Operand.tmp 86) (Operand.tmp 85), type := 0, pos := "law.go:39", after := #[{ on := 6, ground := Ground.data }, { on := 5, ground := Ground.data }, { on := 5, ground := Ground.chain }, { on := 0, ground := Ground.phase }, { on := 1, ground := Ground.phase }, { on := 2, ground := Ground.phase }, { on := 3, ground := Ground.phase }, { on := 4, ground := Ground.phase }, { on := 5, ground := Ground.phase }], guard := none }) rfl (fun K hK => ?stepp19) ?morep19
                        case stepp19 =>
                          go_simp
                          refine hK.out _ _ (by first | (refine MK.out _ ?_; repeat (first | (with_reducible exact bx) | (with_reducible refine Blk.drew ?_) | (with_reducible refine Blk.alloc ?_ _) | (with_reducible refine Blk.kept ?_ hk4) | (with_reducible refine Blk.grown ?_ hgr5 ne7) | (refine Blk.far ?_ hg37 _)))) (fun hHeld => ?_)
                          clear hK K
                          try simp only [Act.put, List.setIfInBounds_toArray, List.set_cons_zero, List.set_cons_succ]
                          refine wpAnyH_done (by kernel_rfl) ?_ _
                          have hob6 : (Value.slice KA5 (q + 1) KC5).ownBlock = (Value.slice KA q KC).ownBlock ∨ (Value.slice KA5 (q + 1) KC5).ownBlock = some (w4.heap.size + 1) := by simpa using hob5
                          have low5 := low_push low3 (Nat.le_trans hz5 k34.size) hob6
                          have fr6 := fr5.set 8 (.slice KA5 (q + 1) KC5)
                          have own6 := own_set1 (g := g3) (i := 8) (u := .slice KA5 (q + 1) KC5) hown5 low5 (by have := fr.l.2.2.2.2.2.1; omega)
                          have hbS5 := ((hbS3.kept k34).kept ((Kept.refl w4).alloc _)).grown0 hgr5 (fun b' o' hn e => by
                            have h1 := HBO.out b' o' hn e
                            intro e'
                            have := low3 b' e'.symm
                            omega)
                          have hbS6 := hbS5.grown0 (grown_set1 w5 g3 8 (.slice KA5 (q + 1) KC5)) (fun b' o' hn e => by
                            have h1 := HBO.out b' o' hn e
                            have h2 := fr.l.2.2.2.2.2.1
                            intro e'
                            injection e' with e'
                            omega)
                          have haS5 := ((haS3.kept k34).kept ((Kept.refl w4).alloc _)).grown0 hgr5 (fun b' o' hn e => by
                            have h1 := HAO.out b' o' hn e
                            intro e'
                            have := low3 b' e'.symm
                            omega)
                          have haS6 := haS5.grown0 (grown_set1 w5 g3 8 (.slice KA5 (q + 1) KC5)) (fun b' o' hn e => by
                            have h1 := HAO.out b' o' hn e
                            have h2 := fr.l.2.2.2.2.2.1
                            intro e'
                            injection e' with e'
                            omega)
                          have HO5 := Own.push (wc := w3) (HO3.kept k34) (Nat.zero_le _) HY.out.1 (HY.out.2.2.mono (fun b hb => Or.inr hb)) hz5 lowb hgr5 hob6
                          have HO6 : Own wP (w5.setCell ⟨g3, 8, none⟩ (.slice KA5 (q + 1) KC5)) 0 (.slice KA5 (q + 1) KC5) (O ++ [Nd.mk zk zn zbA zbn zbc zbs zaA zan zac zal zt zg zkA zkn zkc zks]) := fun x hx => ⟨(HO5 x hx).1.grown (grown_set1 w5 g3 8 _) ((HO5 x hx).2.mono (fun b hb => by
                            have h2 := fr.l.2.2.2.2.2.1
                            intro e'
                            injection e' with e'
                            omega)), (HO5 x hx).2⟩
                          have hz6 : wP.heap.size ≤ w5.heap.size := by
                            have h1 := hgr5.size
                            have h2 := k34.size
                            rw [World.size_alloc] at h1
                            omega
                          go_wp2_with fail
                          go_roundw
                          case rel =>
                            refine ⟨q + 1, KA5, KC5, O ++ [Nd.mk zk zn zbA zbn zbc zbs zaA zan zac zal zt zg zkA zkn zkc zks], hlt, by go_num, ?_, low5, HO6, ?_, hbS6, haS6, by simpa using hz6, by simpa using fr6⟩
                            · rw [List.flatMap_append]
                              exact own6
                            · unfold Hid
                              rw [List.map_append, HI.out, List.map_singleton, List.take_add_one, HYT.out, HY.out.2.1]
                              rfl
                          case measure =>
                            simp [intOf]
                            omega
                        exact AllReadyH.nil
                      exact AllReadyH.nil
                    exact AllReadyH.nil
                  exact AllReadyH.nil
                exact AllReadyH.nil
              · obtain rfl : q = kn := by omega
                have hkS := sl_own hown
                have fc1 := fr.b3.cell
                have z2 := blk_znd fr.b2
                obtain ⟨z0, z1, z2, z3, z4, z5, z6, z7, z8, zf, zl⟩ := z2
                have c0' := fc1 0
                have c1' := fc1 1
                have c2' := fc1 2
                have c3' := fc1 3
                have c4' := fc1 4
                have c5' := fc1 5
                have c6' := fc1 6
                have c7' := fc1 7
                have c8' := fc1 8
                go_wp2_with fail
                obtain ⟨l1, l2, l3, l4, l5, l6, l7, l8⟩ := fr.l
                have hzz := fr.z
                have bz := blk_setB9 fr.b2 (.int .i64 k) (.string n.u) (.string n.l) (.string n.p) (.slice VA j VC) (.slice UA i UC) (.string t) (.string g) (.slice KA q KC)
                have kz := kept_setB9 fr.k l2 (.int .i64 k) (.string n.u) (.string n.l) (.string n.p) (.slice VA j VC) (.slice UA i UC) (.string t) (.string g) (.slice KA q KC)
                have g9 := grown_setB9 wr g2 (.int .i64 k) (.string n.u) (.string n.l) (.string n.p) (.slice VA j VC) (.slice UA i UC) (.string t) (.string g) (.slice KA q KC)
                change bodyPost _ _ _ _ _ (setB9 wr g2 (.int .i64 k) (.string n.u) (.string n.l) (.string n.p) (.slice VA j VC) (.slice UA i UC) (.string t) (.string g) (.slice KA q KC))
                generalize setB9 wr g2 (.int .i64 k) (.string n.u) (.string n.l) (.string n.p) (.slice VA j VC) (.slice UA i UC) (.string t) (.string g) (.slice KA q KC) = W at bz kz g9 ⊢
                have cz := bz.cell
                have d0 := cz 0
                have d1 := cz 1
                have d2 := cz 2
                have d3 := cz 3
                have d4 := cz 4
                have d5 := cz 5
                have d6 := cz 6
                have d7 := cz 7
                have d8 := cz 8
                have hO2 : ∀ x ∈ O, x.ok W := fun x hx => (HO x hx).1.grown g9 ((HO x hx).2.mono fun b hb => by
                  intro e
                  injection e with e
                  omega)
                have hkb : ∀ b o, 0 < q → KA = some ⟨b, o, none⟩ → wP.heap.size ≤ b := fun b o hn e => low3 b (by rw [e]; rfl)
                have e1 := hbS.grown0 g9 (fun b o hn e => by
                  have := HBO.out b o hn e
                  intro e'
                  injection e' with e'
                  omega)
                have e2 := haS.grown0 g9 (fun b o hn e => by
                  have := HAO.out b o hn e
                  intro e'
                  injection e' with e'
                  omega)
                have e3 := hkS.grown0 g9 (fun b o hn e => by
                  have := hkb b o hn e
                  intro e'
                  injection e' with e'
                  omega)
                refine bodyPost_ret (v := .agg #[.int .i64 k, .string n.u, .string n.l, .string n.p, .slice VA j VC, .slice UA i UC, .string t, .string g, .slice KA q KC]) (by simp [results, Try.results12, go_sem, d0, d1, d2, d3, d4, d5, d6, d7, d8]) rfl
                  ⟨Nd.mk k n VA j VC bs UA i UC al t g KA q KC O, rfl, .mk e1 e2 e3 hO2, ?_, .mk ?_ ?_ ?_ ?_, kz⟩
                · rw [Nd.tr_mk, Nd.tr_mk, HI.out, List.take_of_length_le (by rw [List.length_map, HL.out]; exact Nat.le_refl _)]
                · intro b o hn e
                  have := HBO.out b o hn e
                  omega
                · intro b o hn e
                  have := HAO.out b o hn e
                  omega
                · intro b o hn e
                  have := hkb b o hn e
                  omega
                · intro x hx
                  exact (HO x hx).2.mono fun b hb => by omega
end Go.Proofs.Ytnlncamiaddhfaa
