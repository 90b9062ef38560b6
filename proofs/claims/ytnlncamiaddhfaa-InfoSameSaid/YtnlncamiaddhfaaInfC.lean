/- A node cut: walked. -/
import Derived.Test.YtnlncamiaddhfaaInfO
namespace Go.Proofs.Ytnlncamiaddhfaa
open Go.RowKit
attribute [local go_sem ↓] Go.wp_at_zero Go.wp_at_succ

def cutL (d : Nat) (l : List Tr) : List Tr := if d = 0 then [] else (l.take 5).map (cutT (d - 1))
theorem cutT_eq (d : Nat) (k : Int) (n : Nm) (bs : List Bd) (al : List Att) (t g : ByteArray) (ks : List Tr) : cutT d (.mk k n bs al t g ks) = .mk k n (bs.take 4) (al.take 6) t g (cutL d ks) := by
  cases d <;> rfl
theorem cutL_put {d : Nat} {l : List Tr} {j : Nat} {y : Tr} (hd : 0 < d) (hj : j < 5) (h : l[j]? = some y) : cutL d (l.take (j + 1)) = cutL d (l.take j) ++ [cutT (d - 1) y] := by
  unfold cutL
  rw [if_neg (by omega), if_neg (by omega), List.take_take, List.take_take, Nat.min_eq_right (by omega), Nat.min_eq_right (by omega), List.take_add_one, h, List.map_append]
  rfl
theorem cutL_skip {d : Nat} {l : List Tr} {j : Nat} (h : ¬ (j < 5 ∧ 0 < d)) : cutL d (l.take (j + 1)) = cutL d (l.take j) := by
  unfold cutL
  split
  · rfl
  · rw [List.take_take, List.take_take, Nat.min_eq_left (by omega), Nat.min_eq_left (by omega)]
theorem cutL_len (d : Nat) (l : List Tr) : (cutL d l).length ≤ 5 := by
  unfold cutL
  split
  · simp
  · simp
    omega
theorem appT_ratt : AppT Try.prog 25 63 5 := appT_mk (z := .agg #[.string ⟨#[]⟩, .string ⟨#[]⟩, .string ⟨#[]⟩, .string ⟨#[]⟩, .bool false]) (bytes := 72) Try.underlying25 (by kernel_rfl) rfl (by omega) (by omega)
theorem appT_att : AppT Try.prog 34 65 5 := appT_mk (z := .agg #[.string ⟨#[]⟩, .string ⟨#[]⟩, .string ⟨#[]⟩, .string ⟨#[]⟩, .bool false]) (bytes := 72) Try.underlying34 (by kernel_rfl) rfl (by omega) (by omega)
theorem appT_rbd : AppT Try.prog 24 60 2 := appT_mk (z := .agg #[.string ⟨#[]⟩, .string ⟨#[]⟩]) (bytes := 32) Try.underlying24 (by kernel_rfl) rfl (by omega) (by omega)
theorem appT_bd : AppT Try.prog 33 61 2 := appT_mk (z := .agg #[.string ⟨#[]⟩, .string ⟨#[]⟩]) (bytes := 32) Try.underlying33 (by kernel_rfl) rfl (by omega) (by omega)
theorem Nd.val_mk (k : Int) (n : Nm) (bA : Option Addr) (bn bc : Nat) (bs : List Bd) (aA : Option Addr) (an ac : Nat) (al : List Att) (t g : ByteArray) (kA : Option Addr) (kn kc : Nat) (ks : List Nd) :
    (Nd.mk k n bA bn bc bs aA an ac al t g kA kn kc ks).val = .agg #[.int .i64 k, .string n.u, .string n.l, .string n.p, .slice bA bn bc, .slice aA an ac, .string t, .string g, .slice kA kn kc] := rfl
theorem own_block {w : World} {base : Nat} {e : TypeId} {size n : Nat} {v : Value} {xs : List Value} {b' : Nat} (h : w.ownsRow base e size v n xs) (hb : w.heap.size ≤ b') : ∀ g, v.ownBlock = some g → base ≤ g ∧ g < b' := fun g hg => ⟨(h.lt g hg).1, Nat.lt_of_lt_of_le (h.lt g hg).2 hb⟩
theorem take_min {α : Type} (l : List α) (n : Nat) : l.take (min l.length n) = l.take n := by
  rcases Nat.le_total l.length n with h | h
  · rw [Nat.min_eq_left h, List.take_of_length_le (Nat.le_refl _), List.take_of_length_le h]
  · rw [Nat.min_eq_right h]
def CutOf (x : Nd) (d B : Nat) (w : World) (e : Ending) (w' : World) : Prop :=
  ∃ y : Nd, e = .returned y.val ∧ y.ok w' ∧ y.tr = cutT d x.tr ∧ y.out (fun b => b < B ∨ w.heap.size ≤ b) ∧ Kept w w'
@[reducible] def znd : Array Value := #[.int .i64 0, .string ⟨#[]⟩, .string ⟨#[]⟩, .string ⟨#[]⟩, .slice none 0 0, .slice none 0 0, .string ⟨#[]⟩, .string ⟨#[]⟩, .slice none 0 0]
theorem blk_znd {w : World} {g : Nat} {t : TypeId} (h : Blk w g znd t) : w.cell? ⟨g, 0, none⟩ = some (.int .i64 0) ∧ w.cell? ⟨g, 1, none⟩ = some (.string ⟨#[]⟩) ∧ w.cell? ⟨g, 2, none⟩ = some (.string ⟨#[]⟩) ∧ w.cell? ⟨g, 3, none⟩ = some (.string ⟨#[]⟩) ∧ w.cell? ⟨g, 4, none⟩ = some (.slice none 0 0) ∧
    w.cell? ⟨g, 5, none⟩ = some (.slice none 0 0) ∧ w.cell? ⟨g, 6, none⟩ = some (.string ⟨#[]⟩) ∧ w.cell? ⟨g, 7, none⟩ = some (.string ⟨#[]⟩) ∧ w.cell? ⟨g, 8, none⟩ = some (.slice none 0 0) ∧ (∀ i, w.frozen? ⟨g, i, none⟩ = false) ∧ g < w.heap.size :=
  ⟨h.cell 0, h.cell 1, h.cell 2, h.cell 3, h.cell 4, h.cell 5, h.cell 6, h.cell 7, h.cell 8, h.frozen, h.lt⟩
set_option maxHeartbeats 8000000 in
theorem cut_any (x : Nd) : ∀ (d : Nat) (w : World) (B : Nat), d ≤ 10 → x.ok w → x.out (fun b => b < B) → B ≤ w.heap.size →
    Calls Try.prog 7 #[x.val, .int .i64 (d : Int)] w fun e w' => CutOf x d B w e w' := by
  induction x using Nd.ind with
  | h k n bA bn bc bs aA an ac al t g kA kn kc ks ih =>
  intro d w B hd hok hout hB
  obtain ⟨hb, ha, h, hks⟩ := hok.parts
  obtain ⟨ob, oa, _, oks⟩ := hout.parts
  have IH := Lib.hid ih
  have HKS := Lib.hid hks
  have OB := Lib.hid (show _ ∧ _ ∧ _ from ⟨ob, oa, oks⟩)
  clear ih hks hok hout ob oa oks
  have hL := h.llen Nd.cells_len (by omega)
  have HL := Lib.hid hL
  have hcap := h.cap
  have hmax := h.max
  have hbc := hb.cap
  have hac := ha.cap
  clear hL
  show Calls Try.prog 7 #[.agg #[.int .i64 k, .string n.u, .string n.l, .string n.p, .slice bA bn bc, .slice aA an ac, .string t, .string g, .slice kA kn kc], .int .i64 (d : Int)] w _
  have k1 := ((Kept.refl w).alloc (.cells (ndc k n bA bn bc aA an ac t g kA kn kc) 28)).alloc (.cells znd 28)
  have b1 := (Blk.new w (ndc k n bA bn bc aA an ac t g kA kn kc) 28).alloc (.cells znd 28)
  have z1 := Blk.new (w.alloc (.cells (ndc k n bA bn bc aA an ac t g kA kn kc) 28)) znd 28
  go_enter Try.func7, Try.ntmps7
  go_upto_region 1 with fail
  generalize (w.alloc (.cells (ndc k n bA bn bc aA an ac t g kA kn kc) 28)).alloc (.cells znd 28) = w1 at k1 b1 z1 ⊢
  have z1' : Blk w1 (w.heap.size + 1) znd 28 := by simpa using z1
  clear z1
  obtain ⟨g2, hg2⟩ : ∃ g2, w.heap.size = g2 := ⟨_, rfl⟩
  obtain ⟨g4, hg4⟩ : ∃ g4, w.heap.size + 1 = g4 := ⟨_, rfl⟩
  rw [hg4] at z1' ⊢
  rw [hg2] at b1 ⊢
  have hw2 : w.heap.size ≤ g2 := by omega
  have hw4 : w.heap.size ≤ g4 := by omega
  have h24 : g2 ≠ g4 := by omega
  clear hg2 hg4
  obtain ⟨a6, HA6⟩ : ∃ a6, Hid (a6 = min an 6) := ⟨_, rfl⟩
  obtain ⟨c4, HC4⟩ : ∃ c4, Hid (c4 = min bn 4) := ⟨_, rfl⟩
  obtain ⟨T1, hT1⟩ : ∃ T1, decide ((6 : Int) < an) = T1 := ⟨_, rfl⟩
  obtain ⟨T2, hT2⟩ : ∃ T2, decide ((4 : Int) < bn) = T2 := ⟨_, rfl⟩
  have bf := b1.cell
  have b5 : w1.cell? ⟨g2, 5, none⟩ = some (.slice aA an ac) := bf 5
  have bfz := b1.frozen
  have bfl := b1.lt
  go_upto_if 11 with fail
  go_cut [] (fun wx => Blk wx g2 (ndc k n bA bn bc aA a6 ac t g kA kn kc) 28 ∧ Blk wx g4 znd 28 ∧ Kept w wx)
  case first =>
    clear hT2
    cases T1
    · have l1 : ¬ (6 : Int) < an := by simpa using hT1
      obtain rfl : a6 = an := by have := HA6.out; omega
      go_wp2_with fail
      go_meet
      exact ⟨b1, z1', k1⟩
    · have l1 : (6 : Int) < an := by simpa using hT1
      have hcut := run_cut_h appT_ratt aA an ac 6 (by omega)
      have q2 : (6 : Int) ≤ ac := by omega
      obtain rfl : a6 = 6 := by have := HA6.out; omega
      clear hT1
      go_wp2_with fail
      go_meet
      exact ⟨by simpa using b1.set 5 (.slice aA 6 ac), z1'.far (p := ⟨g2, 5, none⟩) (fun h' => h24 h'.symm) _, k1.setCell (p := ⟨g2, 5, none⟩) hw2 _⟩
  case rest =>
    obtain ⟨b2, z2, k2⟩ := hcut
    clear b1 z1' k1
    clear hT1 bf b5 bfz bfl
    obtain ⟨w2, hW2⟩ : ∃ z, z = wc := ⟨_, rfl⟩
    subst hW2
    have bf := b2.cell
    have b5 : w2.cell? ⟨g2, 4, none⟩ = some (.slice bA bn bc) := bf 4
    have bfz := b2.frozen
    have bfl := b2.lt
    go_upto_if 19 with fail
    go_cut [] (fun wx => Blk wx g2 (ndc k n bA c4 bc aA a6 ac t g kA kn kc) 28 ∧ Blk wx g4 znd 28 ∧ Kept w wx)
    case first =>
      cases T2
      · have l1 : ¬ (4 : Int) < bn := by simpa using hT2
        obtain rfl : c4 = bn := by have := HC4.out; omega
        go_wp2_with fail
        go_meet
        exact ⟨b2, z2, k2⟩
      · have l1 : (4 : Int) < bn := by simpa using hT2
        have hcut := run_cut_h appT_rbd bA bn bc 4 (by omega)
        have q2 : (4 : Int) ≤ bc := by omega
        obtain rfl : c4 = 4 := by have := HC4.out; omega
        clear hT2
        go_wp2_with fail
        go_meet
        exact ⟨by simpa using b2.set 4 (.slice bA 4 bc), z2.far (p := ⟨g2, 4, none⟩) (fun h' => h24 h'.symm) _, k2.setCell (p := ⟨g2, 4, none⟩) hw2 _⟩
    case rest =>
      obtain ⟨b3, z3, k3⟩ := hcut
      clear b2 z2 k2 bf b5 bfz bfl hT2
      have bf := b3.cell
      obtain ⟨wL, hWL⟩ : ∃ z, z = wc := ⟨_, rfl⟩
      subst hWL
      go_wp2_with fail
      go_loopw [5, 27] (fun v i wr => ∃ (j m : Nat) (O : List Nd), j ≤ kn ∧ i = .int .i64 j ∧ m ≤ 5 ∧ wr.ownsRow wL.heap.size 28 9 v m (O.flatMap Nd.cells) ∧ Own wL wr B v O ∧ Hid (O.map Nd.tr = cutL d ((ks.map Nd.tr).take j)) ∧ Kept wL wr) (fun _ i _ => kn - (intOf i).toNat)
      case atStart => exact ⟨0, 0, [], Nat.zero_le _, rfl, Nat.zero_le _, ⟨rfl, .inl ⟨rfl, rfl⟩⟩, Own.nil _ _ _ _, by unfold Hid cutL; simp, Kept.refl _⟩
      case round =>
        obtain ⟨j, m, O, hj, rfl, hm, hown, HO, HI, hkept⟩ := hrel
        by_cases hlt : j < kn
        · obtain ⟨b, o, yk, yn, ybA, ybn, ybc, ybs, yaA, yan, yac, yal, yt, yg, ykA, ykn, ykc, yks, rfl, hy, y0, y1, y2, y3, y4, y5, y6, y7, y8, hb'⟩ := cells9 ((h.kept k3).kept hkept) hlt
          have hyo := ((HKS.out _ (List.mem_of_getElem? hy)).kept k3).kept hkept
          have hyu := OB.out.2.2 _ (List.mem_of_getElem? hy)
          have hih := IH.out _ (List.mem_of_getElem? hy)
          have hyt := map_get (f := Nd.tr) hy
          have kx := (Kept.refl wr).alloc (.cells (ndc yk yn ybA ybn ybc yaA yan yac yt yg ykA ykn ykc) 28)
          by_cases hdo : j < 5 ∧ 0 < d
          · obtain ⟨hj5, hd0⟩ := hdo
            have hp := cutL_put hd0 hj5 hyt
            obtain ⟨d', HD⟩ : ∃ d', Hid (d - 1 = d') := ⟨d - 1, rfl⟩
            rw [HD.out] at hp
            have HP := Lib.hid hp
            clear hp
            have l1 : (j : Int) < 5 := by omega
            have l2 : (0 : Int) < d := by omega
            have eq1 : IntKind.i64.wrap ((d : Int) - 1) = (d' : Int) := by
              have := HD.out
              rw [IntWalk.i64_in _ (by omega)]
              omega
            have eq2 : (d : Int) - 1 = (d' : Int) := by
              have := HD.out
              omega
            clear hd0
            go_wp2_with fail
            refine (hih d' _ B (by have := HD.out; omega) (hyo.kept kx) hyu (by have := kx.size; have := hkept.size; have := k3.size; omega)).mono ?_
            rintro e w5 ⟨y, rfl, yok, ytr, yout, k5⟩
            have HY := Lib.hid (show _ ∧ _ ∧ _ from ⟨yok, ytr, yout⟩)
            clear yok ytr yout
            obtain ⟨zk, zn, zbA, zbn, zbc, zbs, zaA, zan, zac, zal, zt, zg, zkA, zkn, zkc, zks⟩ := y
            rw [Nd.val_mk]
            have own5 := own_kept (own_kept hown kx) k5
            have kk5 := (hkept.trans kx).trans k5
            go_wp2_with (at_builtin; refine wpList_push wL (by rfl) _ _ (by rfl) appT_rnd (by rfl) own5 kk5 (by rfl) ?_ ?_; (exact ⟨by simp, rfl, rfl, by omega⟩); intro v6 w6 hown6 hk6 hgr6 hob6)
            have HO6 := Own.push ((HO.kept kx).kept k5) (by have := hkept.size; have := k3.size; omega) HY.out.1 HY.out.2.2 (by have := kx.size; have := hkept.size; omega) (own_block hown kx.size) hgr6 hob6
            clear hgr6 hob6
            go_roundw
            case rel =>
              refine ⟨j + 1, m + 1, O ++ [Nd.mk zk zn zbA zbn zbc zbs zaA zan zac zal zt zg zkA zkn zkc zks], hlt, by go_num, ?_, by rw [List.flatMap_append]; exact hown6, HO6, ?_, hk6⟩
              · have h1 := HP.out
                have h2 := cutL_len d ((ks.map Nd.tr).take (j + 1))
                have h3 := hown.1
                rw [flat_len Nd.cells_len] at h3
                rw [h1, ← HI.out, List.length_append, List.length_map] at h2
                simp at h2
                omega
              · unfold Hid
                rw [HP.out, List.map_append, HI.out, List.map_singleton, HY.out.2.1]
            case measure =>
              simp [intOf]
              omega
          · have HP := Lib.hid (cutL_skip (l := ks.map Nd.tr) hdo)
            by_cases hj5 : j < 5
            · have l1 : (j : Int) < 5 := by omega
              obtain rfl : d = 0 := by omega
              clear hdo
              go_wp2_with fail
              go_roundw
              case rel => exact ⟨j + 1, m, O, hlt, by go_num, hm, own_kept hown kx, HO.kept kx, by unfold Hid; rw [HP.out, HI.out], hkept.trans kx⟩
              case measure =>
                simp [intOf]
                omega
            · have l1 : ¬ (j : Int) < 5 := by omega
              clear hdo
              go_wp2_with fail
              go_roundw
              case rel => exact ⟨j + 1, m, O, hlt, by go_num, hm, own_kept hown kx, HO.kept kx, by unfold Hid; rw [HP.out, HI.out], hkept.trans kx⟩
              case measure =>
                simp [intOf]
                omega
        · obtain rfl : j = kn := by omega
          obtain ⟨VA, VC, rfl, hV⟩ := Sl.of_own hown
          have b4 := b3.kept hkept
          have z4 := z3.kept hkept
          have bf4 := b4.cell
          have b4z := b4.frozen
          have b4l := b4.lt
          have zf4 := z4.cell
          have z4z := z4.frozen
          have z4l := z4.lt
          clear bf
          go_wp2_with fail
          have bz := blk_setB9 (z4.far (p := ⟨g2, 8, none⟩) (fun h' => h24 h'.symm) (.slice VA m VC)) (.int .i64 k) (.string n.u) (.string n.l) (.string n.p) (.slice bA c4 bc) (.slice aA a6 ac) (.string t) (.string g) (.slice VA m VC)
          have kz := kept_setB9 ((k3.trans hkept).setCell (p := ⟨g2, 8, none⟩) hw2 (.slice VA m VC)) hw4 (.int .i64 k) (.string n.u) (.string n.l) (.string n.p) (.slice bA c4 bc) (.slice aA a6 ac) (.string t) (.string g) (.slice VA m VC)
          have g1 := grown_set1 wr g2 8 (.slice VA m VC)
          have g9 := grown_setB9 (wr.setCell ⟨g2, 8, none⟩ (.slice VA m VC)) g4 (.int .i64 k) (.string n.u) (.string n.l) (.string n.p) (.slice bA c4 bc) (.slice aA a6 ac) (.string t) (.string g) (.slice VA m VC)
          change bodyPost _ _ _ _ _ (setB9 (wr.setCell ⟨g2, 8, none⟩ (.slice VA m VC)) g4 (.int .i64 k) (.string n.u) (.string n.l) (.string n.p) (.slice bA c4 bc) (.slice aA a6 ac) (.string t) (.string g) (.slice VA m VC))
          generalize setB9 (wr.setCell ⟨g2, 8, none⟩ (.slice VA m VC)) g4 (.int .i64 k) (.string n.u) (.string n.l) (.string n.p) (.slice bA c4 bc) (.slice aA a6 ac) (.string t) (.string g) (.slice VA m VC) = W at bz kz g9 ⊢
          have bl := b3.lt
          have zl := z3.lt
          have cz := bz.cell
          have c0 := cz 0
          have c1 := cz 1
          have c2 := cz 2
          have c3 := cz 3
          have c4' := cz 4
          have c5 := cz 5
          have c6 := cz 6
          have c7 := cz 7
          have c8 := cz 8
          have hO2 : ∀ x ∈ O, x.ok W := by
            intro x hx
            obtain ⟨h1, h2⟩ := HO x hx
            refine (h1.grown g1 (h2.mono fun b hb => ?_)).grown g9 (h2.mono fun b hb => ?_)
            all_goals
              intro e
              injection e with e
              rcases hb with hb | hb
              · omega
              · omega
          have hV2 : Sl W 9 VA m VC (O.flatMap Nd.cells) := by
            have hfar : ∀ b o, 0 < m → VA = some ⟨b, o, none⟩ → wL.heap.size ≤ b := by
              intro b o hm' e
              obtain ⟨g', hg', hg2, _⟩ := own_form hown hm'
              rw [hg'] at e
              injection e with e
              injection e with e _
              omega
            refine (hV.grown0 g1 (fun b o hm' e => ?_)).grown0 g9 (fun b o hm' e => ?_)
            all_goals
              have := hfar b o hm' e
              intro e'
              injection e' with e'
              omega
          have hbt := (hb.kept kz).to (m := c4) (by have := HC4.out; omega)
          have hat := (ha.kept kz).to (m := a6) (by have := HA6.out; omega)
          rw [flat_take (s := 2) (enc := Bd.cells) (fun _ => rfl)] at hbt
          rw [flat_take (s := 5) (enc := Att.cells) (fun _ => rfl)] at hat
          have hbl := hb.llen (enc := Bd.cells) (fun _ => rfl) (by omega)
          have hal := ha.llen (enc := Att.cells) (fun _ => rfl) (by omega)
          refine bodyPost_ret (v := .agg #[.int .i64 k, .string n.u, .string n.l, .string n.p, .slice bA c4 bc, .slice aA a6 ac, .string t, .string g, .slice VA m VC]) (by simp [results, Try.results7, go_sem, c0, c1, c2, c3, c4', c5, c6, c7, c8]) rfl
            ⟨Nd.mk k n bA c4 bc (bs.take c4) aA a6 ac (al.take a6) t g VA m VC O, rfl, .mk hbt hat hV2 hO2, ?_, .mk ?_ ?_ ?_ ?_, kz⟩
          · rw [Nd.tr_mk, Nd.tr_mk, cutT_eq, HI.out]
            have e1 : bs.take c4 = bs.take 4 := by
              rw [HC4.out, ← hbl, take_min]
            have e2 : al.take a6 = al.take 6 := by
              rw [HA6.out, ← hal, take_min]
            rw [e1, e2, List.take_of_length_le (l := ks.map Nd.tr) (by rw [List.length_map, HL.out]; exact Nat.le_refl _)]
          · intro b o hn e
            exact .inl (OB.out.1 b o (by have := HC4.out; omega) e)
          · intro b o hn e
            exact .inl (OB.out.2.1 b o (by have := HA6.out; omega) e)
          · intro b o hn e
            obtain ⟨g', hg', hg2, _⟩ := own_form hown hn
            rw [hg'] at e
            injection e with e
            injection e with e _
            have := k3.size
            exact .inr (by omega)
          · intro x hx
            refine (HO x hx).2.mono fun b hb => ?_
            have := k3.size
            rcases hb with hb | hb
            · exact .inl hb
            · exact .inr (by omega)
end Go.Proofs.Ytnlncamiaddhfaa
