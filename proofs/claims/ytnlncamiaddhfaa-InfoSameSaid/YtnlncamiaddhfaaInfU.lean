/- A node as the program's: walked. -/
import Derived.Test.YtnlncamiaddhfaaInfC
namespace Go.Proofs.Ytnlncamiaddhfaa
open Go.RowKit
attribute [local go_sem ↓] Go.wp_at_zero Go.wp_at_succ

theorem ourName_any (n : Nm) (w : World) : Calls Try.prog 26 #[.agg #[.string n.u, .string n.l, .string n.p]] w fun e w' => e = .returned (.agg #[.string n.u, .string n.l, .string n.p]) ∧ Kept w w' := by
  go_enter Try.func26, Try.ntmps26
  go_wp2_with fail
  exact bodyPost_ret (v := .agg #[.string n.u, .string n.l, .string n.p]) (by simp [results, Try.results26, go_sem]) rfl ⟨rfl, by repeat (first | (with_reducible exact Kept.refl _) | (with_reducible refine Kept.setCell ?_ (by simp) _) | (with_reducible refine Kept.alloc ?_ _))⟩

/-- What stands while a node is made: the one that came in, the result's cell, the one that is made. -/
structure Fr (w wr : World) (g1 g2 g3 Bz : Nat) (inp cur : Array Value) (Ti To : TypeId) : Prop where
  b1 : Blk wr g1 inp Ti
  b2 : Blk wr g2 znd To
  b3 : Blk wr g3 cur To
  k : Kept w wr
  z : Bz ≤ wr.heap.size
  l : w.heap.size ≤ g1 ∧ w.heap.size ≤ g2 ∧ w.heap.size ≤ g3 ∧ g1 < Bz ∧ g2 < Bz ∧ g3 < Bz ∧ g1 ≠ g3 ∧ g2 ≠ g3
section
variable {w wr w' : World} {g1 g2 g3 Bz : Nat} {inp cur : Array Value} {Ti To : TypeId}
theorem Fr.kept (h : Fr w wr g1 g2 g3 Bz inp cur Ti To) (kk : Kept wr w') : Fr w w' g1 g2 g3 Bz inp cur Ti To :=
  ⟨h.b1.kept kk, h.b2.kept kk, h.b3.kept kk, h.k.trans kk, Nat.le_trans h.z kk.size, h.l⟩
theorem Fr.grown {row : Option Nat} (h : Fr w wr g1 g2 g3 Bz inp cur Ti To) (hg : wr.grownBy w' row) (hr : ∀ q, row = some q → Bz ≤ q) : Fr w w' g1 g2 g3 Bz inp cur Ti To := by
  obtain ⟨l1, l2, l3, l4, l5, l6, l7, l8⟩ := h.l
  refine ⟨h.b1.grown hg ?_, h.b2.grown hg ?_, h.b3.grown hg ?_, h.k.grown hg (fun q hq => by have := hr q hq; omega), Nat.le_trans h.z hg.size, h.l⟩
  all_goals
    intro e
    have := hr _ e.symm
    omega
theorem Fr.set (h : Fr w wr g1 g2 g3 Bz inp cur Ti To) (i : Nat) (u : Value) : Fr w (wr.setCell ⟨g3, i, none⟩ u) g1 g2 g3 Bz inp (cur.setIfInBounds i u) Ti To :=
  ⟨h.b1.far (p := ⟨g3, i, none⟩) h.l.2.2.2.2.2.2.1 u, h.b2.far (p := ⟨g3, i, none⟩) h.l.2.2.2.2.2.2.2 u, h.b3.set i u, h.k.setCell (p := ⟨g3, i, none⟩) h.l.2.2.1 u, by simpa using h.z, h.l⟩
end
theorem low_push {w3 : World} {v v' : Value} {Bz : Nat} (h : ∀ q, v.ownBlock = some q → Bz ≤ q) (hz : Bz ≤ w3.heap.size) (hv : v'.ownBlock = v.ownBlock ∨ v'.ownBlock = some (w3.heap.size + 1)) : ∀ q, v'.ownBlock = some q → Bz ≤ q := by
  intro q hq
  rcases hv with hv | hv
  · exact h q (hv ▸ hq)
  · rw [hv] at hq
    injection hq with hq
    omega
theorem own_set1 {w : World} {base : Nat} {e : TypeId} {size n g i Bz : Nat} {v u : Value} {xs : List Value} (h : w.ownsRow base e size v n xs) (hv : ∀ q, v.ownBlock = some q → Bz ≤ q) (hg : g < Bz) : (w.setCell ⟨g, i, none⟩ u).ownsRow base e size v n xs :=
  own_grown h (grown_set1 w g i u) (fun e => by have := hv g e; omega)
theorem sl_own {w : World} {base : Nat} {e : TypeId} {size n c : Nat} {A : Option Addr} {xs : List Value} (h : w.ownsRow base e size (.slice A n c) n xs) : Sl w size A n c xs := by
  obtain ⟨A', c', e', hs⟩ := Sl.of_own h
  injection e' with e1 e2 e3
  subst e1 e3
  exact hs
/-- What Ours and Plain answer. -/
def MadeOf (x : Nd) (w : World) (e : Ending) (w' : World) : Prop :=
  ∃ y : Nd, e = .returned y.val ∧ y.ok w' ∧ y.tr = x.tr ∧ y.out (fun b => w.heap.size ≤ b) ∧ Kept w w'
set_option maxHeartbeats 8000000 in
theorem ours_any (x : Nd) : ∀ w : World, x.ok w → Small x.tr → Calls Try.prog 9 #[x.val] w fun e w' => MadeOf x w e w' := by
  induction x using Nd.ind with
  | h k n bA bn bc bs aA an ac al t g kA kn kc ks ih =>
  intro w hok hsm
  obtain ⟨hb, ha, h, hks⟩ := hok.parts
  have IH := Lib.hid ih
  have HKS := Lib.hid hks
  have HSM := Lib.hid hsm
  clear ih hks hok hsm
  have hcap := h.cap
  have hmax := h.max
  have hbc := hb.cap
  have hbm := hb.max
  have hac := ha.cap
  have ham := ha.max
  show Calls Try.prog 9 #[.agg #[.int .i64 k, .string n.u, .string n.l, .string n.p, .slice bA bn bc, .slice aA an ac, .string t, .string g, .slice kA kn kc]] w _
  have k1 := ((Kept.refl w).alloc (.cells (ndc k n bA bn bc aA an ac t g kA kn kc) 28)).alloc (.cells znd 36)
  have b1 := (Blk.new w (ndc k n bA bn bc aA an ac t g kA kn kc) 28).alloc (.cells znd 36)
  have z1 := Blk.new (w.alloc (.cells (ndc k n bA bn bc aA an ac t g kA kn kc) 28)) znd 36
  go_enter Try.func9, Try.ntmps9
  go_upto_region 1 with fail
  generalize (w.alloc (.cells (ndc k n bA bn bc aA an ac t g kA kn kc) 28)).alloc (.cells znd 36) = w1 at k1 b1 z1 ⊢
  have z1' : Blk w1 (w.heap.size + 1) znd 36 := by simpa using z1
  clear z1
  obtain ⟨g1, hg1⟩ : ∃ g1, w.heap.size = g1 := ⟨_, rfl⟩
  obtain ⟨g2, hg2⟩ : ∃ g2, w.heap.size + 1 = g2 := ⟨_, rfl⟩
  rw [hg2] at z1' ⊢
  rw [hg1] at b1 ⊢
  have hw1 : w.heap.size ≤ g1 := by omega
  have hw2 : w.heap.size ≤ g2 := by omega
  have h12 : g1 ≠ g2 := by omega
  clear hg1 hg2
  have bf := b1.cell
  have b0 : w1.cell? ⟨g1, 0, none⟩ = some (.int .i64 k) := bf 0
  have b1' : w1.cell? ⟨g1, 1, none⟩ = some (.string n.u) := bf 1
  have b2 : w1.cell? ⟨g1, 2, none⟩ = some (.string n.l) := bf 2
  have b3 : w1.cell? ⟨g1, 3, none⟩ = some (.string n.p) := bf 3
  have b6 : w1.cell? ⟨g1, 6, none⟩ = some (.string t) := bf 6
  have b7 : w1.cell? ⟨g1, 7, none⟩ = some (.string g) := bf 7
  have bl := b1.lt
  go_cut [3] (fun s wx => ∃ g3, s = .pointer (some ⟨g3, 0, none⟩) ∧ w1.heap.size ≤ g3 ∧ Blk wx g3 (ndc k n none 0 0 none 0 0 t g none 0 0) 36 ∧ Kept w1 wx)
  case first =>
    have HC := Lib.hid (ourName_any n)
    clear bf
    have MK : Hid (∀ w', Kept w1 w' → w'.cell? ⟨g1, 0, none⟩ = some (.int .i64 k) ∧ w'.cell? ⟨g1, 1, none⟩ = some (.string n.u) ∧ w'.cell? ⟨g1, 2, none⟩ = some (.string n.l) ∧ w'.cell? ⟨g1, 3, none⟩ = some (.string n.p) ∧ w'.cell? ⟨g1, 6, none⟩ = some (.string t) ∧ w'.cell? ⟨g1, 7, none⟩ = some (.string g) ∧ g1 < w'.heap.size) :=
      fun w' kk => ⟨kk.cell b0, kk.cell b1', kk.cell b2, kk.cell b3, kk.cell b6, kk.cell b7, Nat.lt_of_lt_of_le bl kk.size⟩
    go_region_held3 (fun w' => w'.cell? ⟨g1, 0, none⟩ = some (.int .i64 k) ∧ w'.cell? ⟨g1, 1, none⟩ = some (.string n.u) ∧ w'.cell? ⟨g1, 2, none⟩ = some (.string n.l) ∧ w'.cell? ⟨g1, 3, none⟩ = some (.string n.p) ∧ w'.cell? ⟨g1, 6, none⟩ = some (.string t) ∧ w'.cell? ⟨g1, 7, none⟩ = some (.string g) ∧ g1 < w'.heap.size)
      (first | (refine MK.out _ ?_; repeat (first | (with_reducible exact Kept.refl _) | (with_reducible refine Kept.drew ?_) | (with_reducible refine Kept.alloc ?_ _) | (with_reducible refine Kept.setCell ?_ (by show w1.heap.size ≤ w1.heap.size; omega) _) | (with_reducible refine Kept.trans ?_ hk4))))
      (first
      | (go_at_call 26; refine (HC.out _).mono ?_; rintro e w4 ⟨rfl, hk4⟩; (have kw4 : Kept w1 w4 := by repeat (first | (with_reducible exact Kept.refl _) | (with_reducible refine Kept.drew ?_) | (with_reducible refine Kept.alloc ?_ _) | (with_reducible refine Kept.trans ?_ hk4))); (first | (have bz : Blk w4 w1.heap.size znd 36 := by (first | exact Blk.kept (Blk.drew (Blk.new w1 znd 36)) hk4 | exact Blk.kept (Blk.new w1.drew znd 36) hk4)); (obtain ⟨z0, z1, z2, z3, z4, z5, z6, z7, z8, zf, zl⟩ := blk_znd bz) | skip)))
    all_goals
      go_wp2_with fail
      go_meet
      first
      | exact ⟨_, rfl, Nat.le_refl _, blk_setB9 bz _ _ _ _ _ _ _ _ _, kept_setB9 kw4 (Nat.le_refl _) _ _ _ _ _ _ _ _ _⟩
      | exact ⟨_, rfl, kw4.size, Blk.new w4 _ _, kw4.alloc _⟩
  case rest =>
    obtain ⟨g3, rfl, hg3, b3x, k3⟩ := hcut
    obtain ⟨wM, hWM⟩ : ∃ z, z = wc := ⟨_, rfl⟩
    subst hWM
    obtain ⟨Bz, hBz⟩ : ∃ Bz, wM.heap.size = Bz := ⟨_, rfl⟩
    have fr : Fr w wM g1 g2 g3 Bz (ndc k n bA bn bc aA an ac t g kA kn kc) (ndc k n none 0 0 none 0 0 t g none 0 0) 28 36 :=
      ⟨b1.kept k3, z1'.kept k3, b3x, k1.trans k3, by omega, by have := z1'.lt; have := b3x.lt; have := k3.size; have := k1.size; omega⟩
    clear b1 z1' b3x k1 k3 bf b0 b1' b2 b3 b6 b7 bl hg3 hw1 hw2 h12
    have fc := fr.b1.cell
    go_wp2_with fail
    go_loopw [23] (fun i wr => ∃ (j : Nat) (VA : Option Addr) (VC : Nat), j ≤ bn ∧ i = .int .i64 j ∧ wr.ownsRow w.heap.size 61 2 (.slice VA j VC) j ((bs.take j).flatMap Bd.cells) ∧ (∀ q, (Value.slice VA j VC).ownBlock = some q → Bz ≤ q) ∧
      Fr w wr g1 g2 g3 Bz (ndc k n bA bn bc aA an ac t g kA kn kc) (ndc k n VA j VC none 0 0 t g none 0 0) 28 36) (fun i _ => bn - (intOf i).toNat)
    case atStart => exact ⟨0, none, 0, Nat.zero_le _, rfl, ⟨rfl, .inl ⟨rfl, rfl⟩⟩, fun q hq => (by simp [Value.ownBlock] at hq), fr⟩
    case round =>
      clear fr fc
      obtain ⟨j, VA, VC, hj, rfl, hown, hlow, fr⟩ := hrel
      by_cases hlt : j < bn
      · obtain ⟨b, o, x, rfl, hx, hxc, hxb⟩ := (hb.kept fr.k).elemb (enc := Bd.cells) (fun _ => rfl) (by omega) hlt
        have x0 : wr.cell? ⟨b, o + j * 2, none⟩ = some (.string x.p) := hxc 0 _ rfl
        have x1 : wr.cell? ⟨b, o + j * 2 + 1, none⟩ = some (.string x.u) := hxc 1 _ rfl
        have HX := Lib.hid hx
        clear hx hxc
        have kb : Kept wr _ := (Kept.refl wr).alloc (.cells #[.string x.p, .string x.u] 60)
        have bx := Blk.new wr #[.string x.p, .string x.u] 60
        have hbl := hb.llen (enc := Bd.cells) (fun _ => rfl) (by omega)
        have hj1000 : j + 1 ≤ 1000 := by
          have := HSM.out
          rw [Nd.tr_mk] at this
          cases this
          omega
        go_upto_region 5 with fail
        generalize wr.alloc (.cells #[.string x.p, .string x.u] 60) = w3 at kb bx ⊢
        obtain ⟨g7, hg7⟩ : ∃ g7, wr.heap.size = g7 := ⟨_, rfl⟩
        rw [hg7] at bx ⊢
        clear hg7 x0 x1
        have own3 := own_kept hown kb
        have fr3 := fr.kept kb
        have bf := bx.cell
        have cf : w3.cell? ⟨g3, 4, none⟩ = some (.slice VA j VC) := fr3.b3.cell 4
        have hb4 : ∀ (o : Obj) (w5 : World), (w3.alloc o).grownBy w5 (Value.slice VA j VC).ownBlock → w5.cell? ⟨g3, 4, none⟩ = some (.slice VA j VC) ∧ (∀ i, w5.frozen? ⟨g3, i, none⟩ = false) ∧ g3 < w5.heap.size := fun o w5 h5 => by
          have fr5 := (fr3.kept ((Kept.refl w3).alloc o)).grown h5 hlow
          exact ⟨fr5.b3.cell 4, fr5.b3.frozen, fr5.b3.lt⟩
        go_wp2_with (at_builtin; refine wpList_push w (by rfl) _ _ (by rfl) appT_bd (by rfl) own3 fr3.k (by rfl) ?_ ?_; (exact ⟨by simp, rfl, rfl, by omega⟩); intro v5 w5 hown5 hk5 hgr5 hob5; obtain ⟨VA5, VC5, rfl, hV5⟩ := Sl.of_own hown5; obtain ⟨s4, s5, s6⟩ := hb4 _ w5 hgr5)
        have low5 := low_push hlow fr3.z hob5
        have fr5 := ((fr3.kept ((Kept.refl w3).alloc _)).grown hgr5 hlow).set 4 (.slice VA5 (j + 1) VC5)
        have own6 := own_set1 (g := g3) (i := 4) (u := .slice VA5 (j + 1) VC5) hown5 low5 fr.l.2.2.2.2.2.1
        clear hgr5 hob5 hV5 s4 s5 s6 hb4 cf bf own3
        go_roundw
        case rel =>
          refine ⟨j + 1, VA5, VC5, hlt, by go_num, ?_, low5, by simpa using fr5⟩
          rw [List.take_add_one, HX.out, List.flatMap_append]
          exact own6
        case measure =>
          simp [intOf]
          omega
      · obtain rfl : j = bn := by omega
        obtain ⟨wN, hWN⟩ : ∃ z, z = wr := ⟨_, rfl⟩
        subst hWN
        obtain ⟨Bz2, hBz2⟩ : ∃ z, wN.heap.size = z := ⟨_, rfl⟩
        have hbl := hb.llen (enc := Bd.cells) (fun _ => rfl) (by omega)
        rw [List.take_of_length_le (l := bs) (by omega)] at hown
        have hbS := sl_own hown
        have hbo : ∀ b o, 0 < j → VA = some ⟨b, o, none⟩ → Bz ≤ b ∧ b < Bz2 := fun b o hn e => by
          have h1 := hlow b (by rw [e]; rfl)
          have h2 := hbS.lt (by omega) hn b o e
          omega
        have HBO := Lib.hid hbo
        have hz2 := fr.z
        clear hown hlow hbo hb
        have fc := fr.b1.cell
        go_wp2_with fail
        go_loopw [41] (fun s wr => ∃ (i : Nat) (UA : Option Addr) (UC : Nat), i ≤ an ∧ s = .int .i64 i ∧ wr.ownsRow w.heap.size 65 5 (.slice UA i UC) i ((al.take i).flatMap Att.cells) ∧ (∀ q, (Value.slice UA i UC).ownBlock = some q → Bz2 ≤ q) ∧ Sl wr 2 VA j VC (bs.flatMap Bd.cells) ∧ Bz2 ≤ wr.heap.size ∧
          Fr w wr g1 g2 g3 Bz (ndc k n bA j bc aA an ac t g kA kn kc) (ndc k n VA j VC UA i UC t g none 0 0) 28 36) (fun s _ => an - (intOf s).toNat)
        case atStart => exact ⟨0, none, 0, Nat.zero_le _, rfl, ⟨rfl, .inl ⟨rfl, rfl⟩⟩, fun q hq => (by simp [Value.ownBlock] at hq), hbS, by omega, fr⟩
        case round =>
          clear fr fc hbS
          obtain ⟨i, UA, UC, hi, rfl, hown, hlow, hbS, hz3, fr⟩ := hrel
          by_cases hlt : i < an
          · obtain ⟨b, o, x, rfl, hx, hxc, hxb⟩ := (ha.kept fr.k).elemb (enc := Att.cells) (fun _ => rfl) (by omega) hlt
            have x0 : wr.cell? ⟨b, o + i * 5, none⟩ = some (.string x.n.u) := hxc 0 _ rfl
            have x1 : wr.cell? ⟨b, o + i * 5 + 1, none⟩ = some (.string x.n.l) := hxc 1 _ rfl
            have x2 : wr.cell? ⟨b, o + i * 5 + 2, none⟩ = some (.string x.n.p) := hxc 2 _ rfl
            have x3 : wr.cell? ⟨b, o + i * 5 + 3, none⟩ = some (.string x.v) := hxc 3 _ rfl
            have x4 : wr.cell? ⟨b, o + i * 5 + 4, none⟩ = some (.bool x.h) := hxc 4 _ rfl
            have HX := Lib.hid hx
            clear hx hxc
            have kb : Kept wr _ := (Kept.refl wr).alloc (.cells #[.string x.n.u, .string x.n.l, .string x.n.p, .string x.v, .bool x.h] 63)
            have bx := Blk.new wr #[.string x.n.u, .string x.n.l, .string x.n.p, .string x.v, .bool x.h] 63
            have hal := ha.llen (enc := Att.cells) (fun _ => rfl) (by omega)
            have hi1000 : i + 1 ≤ 1000 := by
              have := HSM.out
              rw [Nd.tr_mk] at this
              cases this
              omega
            go_upto_region 10 with fail
            generalize wr.alloc (.cells #[.string x.n.u, .string x.n.l, .string x.n.p, .string x.v, .bool x.h] 63) = w3 at kb bx ⊢
            obtain ⟨g7, hg7⟩ : ∃ g7, wr.heap.size = g7 := ⟨_, rfl⟩
            rw [hg7] at bx ⊢
            have own3 := own_kept hown kb
            have fr3 := fr.kept kb
            have hbS3 := hbS.kept kb
            have hz5 := Nat.le_trans hz3 kb.size
            have hg37 : g7 ≠ g3 := by
              have := fr.l.2.2.2.2.2.1
              have := fr.z
              omega
            have ne7 : some g7 ≠ (Value.slice UA i UC).ownBlock := by
              intro e
              have := (hown.lt g7 e.symm).2
              omega
            have cf : w3.cell? ⟨g3, 5, none⟩ = some (.slice UA i UC) := fr3.b3.cell 5
            have fl3 := fr3.b3.lt
            have ff3 := fr3.b3.frozen
            clear hg7 x0 x1 x2 x3 x4
            have HC := Lib.hid (ourName_any x.n)
            have MK : Hid (∀ w', Blk w' g7 #[.string x.n.u, .string x.n.l, .string x.n.p, .string x.v, .bool x.h] 63 → w'.cell? ⟨g7, 0, none⟩ = some (.string x.n.u) ∧ w'.cell? ⟨g7, 1, none⟩ = some (.string x.n.l) ∧ w'.cell? ⟨g7, 2, none⟩ = some (.string x.n.p) ∧ w'.cell? ⟨g7, 3, none⟩ = some (.string x.v) ∧ w'.cell? ⟨g7, 4, none⟩ = some (.bool x.h) ∧ g7 < w'.heap.size) :=
              fun w' bk => ⟨bk.cell 0, bk.cell 1, bk.cell 2, bk.cell 3, bk.cell 4, bk.lt⟩
            have hlow' : ∀ q, (Value.slice UA i UC).ownBlock = some q → Bz ≤ q := fun q hq => by
              have := hlow q hq
              omega
            refine wp_region_held_drew (S := fun w' => w'.cell? ⟨g7, 0, none⟩ = some (.string x.n.u) ∧ w'.cell? ⟨g7, 1, none⟩ = some (.string x.n.l) ∧ w'.cell? ⟨g7, 2, none⟩ = some (.string x.n.p) ∧ w'.cell? ⟨g7, 3, none⟩ = some (.string x.v) ∧ w'.cell? ⟨g7, 4, none⟩ = some (.bool x.h) ∧ g7 < w'.heap.size) (by kernel_rfl) (MK.out _ bx.drew) (fun hHeld => ?_)
            skip
            refine wpAnyH_take (i := 0) (oi := { dst := some 45, op := Op.fieldAddr 36 (Operand.tmp 3) 3, type := 0, pos := "law.go:22", after := #[], guard := none }) (v := ?vv1) rfl (by kernel_rfl) (by kernel_rfl) (by kernel_rfl) (fun _ _ _ h => h) (Or.inl ⟨by rfl, ?hy1⟩) (by assumption) ?rest1
            case hy1 => (intro wS hSw; (try dsimp only at hSw); go_simp; try (with_reducible rfl))
            try simp only [Act.put, List.setIfInBounds_toArray, List.set_cons_zero, List.set_cons_succ]
            refine wpAnyH_take (i := 2) (oi := { dst := some 47, op := Op.fieldAddr 63 (Operand.tmp 7) 0, type := 0, pos := "law.go:22", after := #[], guard := none }) (v := ?vv2) rfl (by kernel_rfl) (by kernel_rfl) (by kernel_rfl) (fun _ _ _ h => h) (Or.inl ⟨by rfl, ?hy2⟩) (by assumption) ?rest2
            case hy2 => (intro wS hSw; (try dsimp only at hSw); go_simp; try (with_reducible rfl))
            try simp only [Act.put, List.setIfInBounds_toArray, List.set_cons_zero, List.set_cons_succ]
            refine wpAnyH_take (i := 3) (oi := { dst := some 48, op := Op.load 23 (Operand.tmp 47), type := 23, pos := "law.go:22", after := #[{ on := 2, ground := Ground.data }], guard := none }) (v := ?vv3) rfl (by kernel_rfl) (by kernel_rfl) (by kernel_rfl) (fun _ _ _ h => h) (Or.inl ⟨by rfl, ?hy3⟩) (by assumption) ?rest3
            case hy3 => (intro wS hSw; (try dsimp only at hSw); go_simp; try (with_reducible rfl))
            try simp only [Act.put, List.setIfInBounds_toArray, List.set_cons_zero, List.set_cons_succ]
            refine wpAnyH_take (i := 5) (oi := { dst := some 50, op := Op.fieldAddr 63 (Operand.tmp 7) 1, type := 0, pos := "law.go:22", after := #[], guard := none }) (v := ?vv4) rfl (by kernel_rfl) (by kernel_rfl) (by kernel_rfl) (fun _ _ _ h => h) (Or.inl ⟨by rfl, ?hy4⟩) (by assumption) ?rest4
            case hy4 => (intro wS hSw; (try dsimp only at hSw); go_simp; try (with_reducible rfl))
            try simp only [Act.put, List.setIfInBounds_toArray, List.set_cons_zero, List.set_cons_succ]
            refine wpAnyH_take (i := 6) (oi := { dst := some 51, op := Op.load 9 (Operand.tmp 50), type := 9, pos := "law.go:22", after := #[{ on := 5, ground := Ground.data }], guard := none }) (v := ?vv5) rfl (by kernel_rfl) (by kernel_rfl) (by kernel_rfl) (fun _ _ _ h => h) (Or.inl ⟨by rfl, ?hy5⟩) (by assumption) ?rest5
            case hy5 => (intro wS hSw; (try dsimp only at hSw); go_simp; try (with_reducible rfl))
            try simp only [Act.put, List.setIfInBounds_toArray, List.set_cons_zero, List.set_cons_succ]
            refine wpAnyH_take (i := 7) (oi := { dst := some 52, op := Op.fieldAddr 63 (Operand.tmp 7) 2, type := 0, pos := "law.go:22", after := #[], guard := none }) (v := ?vv6) rfl (by kernel_rfl) (by kernel_rfl) (by kernel_rfl) (fun _ _ _ h => h) (Or.inl ⟨by rfl, ?hy6⟩) (by assumption) ?rest6
            case hy6 => (intro wS hSw; (try dsimp only at hSw); go_simp; try (with_reducible rfl))
            try simp only [Act.put, List.setIfInBounds_toArray, List.set_cons_zero, List.set_cons_succ]
            refine wpAnyH_take (i := 8) (oi := { dst := some 53, op := Op.load 4 (Operand.tmp 52), type := 4, pos := "law.go:22", after := #[{ on := 7, ground := Ground.data }], guard := none }) (v := ?vv7) rfl (by kernel_rfl) (by kernel_rfl) (by kernel_rfl) (fun _ _ _ h => h) (Or.inl ⟨by rfl, ?hy7⟩) (by assumption) ?rest7
            case hy7 => (intro wS hSw; (try dsimp only at hSw); go_simp; try (with_reducible rfl))
            try simp only [Act.put, List.setIfInBounds_toArray, List.set_cons_zero, List.set_cons_succ]
            refine wpAnyH_ready (rs := [1, 4]) (by kernel_rfl) (by simp) ?_
            refine AllReadyH.cons (o := { dst := some 46, op := Op.load 34 (Operand.tmp 45), type := 34, pos := "law.go:22", after := #[{ on := 0, ground := Ground.data }], guard := none }) rfl (fun K hK => ?step8) ?more8
            case step8 =>
              go_simp
              refine hK.out _ _ (by first | (refine MK.out _ ?_; repeat (first | (with_reducible exact bx) | (with_reducible refine Blk.drew ?_) | (with_reducible refine Blk.alloc ?_ _) | (with_reducible refine Blk.kept ?_ hk4) | (with_reducible refine Blk.grown ?_ hgr5 ne7) | (refine Blk.far ?_ hg37 _)))) (fun hHeld => ?_)
              clear hK K
              try simp only [Act.put, List.setIfInBounds_toArray, List.set_cons_zero, List.set_cons_succ]
              refine wpAnyH_ready (rs := [4]) (by kernel_rfl) (by simp) ?_
              refine AllReadyH.cons (o := { dst := some 49, op := Op.call { callee := Callee.value (Operand.func 26), args := #[Operand.tmp 48], argTypes := #[23] }, type := 32, pos := "law.go:22", after := #[{ on := 3, ground := Ground.data }], guard := none }) rfl (fun K hK => ?step9) ?more9
              case step9 =>
                go_simp
                go_at_call 26
                refine (HC.out _).mono ?_
                rintro e w4 ⟨rfl, hk4⟩
                have k34 : Kept w3 w4 := Kept.trans (Kept.refl w3).drew hk4
                have cf4 : w4.cell? ⟨g3, 5, none⟩ = some (.slice UA i UC) := k34.cell cf
                have fl4 : g3 < w4.heap.size := Nat.lt_of_lt_of_le fl3 k34.size
                go_wp2_with fail
                refine hK.out _ _ (by first | (refine MK.out _ ?_; repeat (first | (with_reducible exact bx) | (with_reducible refine Blk.drew ?_) | (with_reducible refine Blk.alloc ?_ _) | (with_reducible refine Blk.kept ?_ hk4) | (with_reducible refine Blk.grown ?_ hgr5 ne7) | (refine Blk.far ?_ hg37 _)))) (fun hHeld => ?_)
                clear hK K
                try simp only [Act.put, List.setIfInBounds_toArray, List.set_cons_zero, List.set_cons_succ]
                refine wpAnyH_take (i := 9) (oi := { dst := some 54, op := Op.build 65 #[(0, Operand.tmp 49), (1, Operand.tmp 51), (2, Operand.tmp 53)], type := 65, pos := "law.go:22", after := #[{ on := 4, ground := Ground.data }, { on := 6, ground := Ground.data }, { on := 8, ground := Ground.data }], guard := none }) (v := ?vv10) rfl (by kernel_rfl) (by kernel_rfl) (by kernel_rfl) (fun _ _ _ h => h) (Or.inl ⟨by rfl, ?hy10⟩) (by assumption) ?rest10
                case hy10 => (intro wS hSw; (try dsimp only at hSw); go_simp; try (with_reducible rfl))
                try simp only [Act.put, List.setIfInBounds_toArray, List.set_cons_zero, List.set_cons_succ]
                refine wpAnyH_ready (rs := [10]) (by kernel_rfl) (by simp) ?_
                refine AllReadyH.cons (o := { dst := some 55, op := Op.buildSlice 34 1 #[(0, Operand.tmp 54)], type := 34, pos := "law.go:22", after := #[{ on := 9, ground := Ground.data }], guard := none }) rfl (fun K hK => ?step11) ?more11
                case step11 =>
                  go_simp
                  refine hK.out _ _ (by first | (refine MK.out _ ?_; repeat (first | (with_reducible exact bx) | (with_reducible refine Blk.drew ?_) | (with_reducible refine Blk.alloc ?_ _) | (with_reducible refine Blk.kept ?_ hk4) | (with_reducible refine Blk.grown ?_ hgr5 ne7) | (refine Blk.far ?_ hg37 _)))) (fun hHeld => ?_)
                  clear hK K
                  try simp only [Act.put, List.setIfInBounds_toArray, List.set_cons_zero, List.set_cons_succ]
                  refine wpAnyH_ready (rs := [11]) (by kernel_rfl) (by simp) ?_
                  refine AllReadyH.cons (o := { dst := some 56, op := Op.call { callee := Callee.builtin Builtin.append, args := #[Operand.tmp 46, Operand.tmp 55], argTypes := #[34, 34] }, type := 34, pos := "law.go:22", after := #[{ on := 1, ground := Ground.data }, { on := 10, ground := Ground.data }, { on := 4, ground := Ground.chain }], guard := none }) rfl (fun K hK => ?step12) ?more12
                  case step12 =>
                    refine step_app w (by rfl) _ _ (by rfl) appT_att (by rfl) ((own_kept own3 k34).alloc _) ((fr3.k.trans k34).alloc _) (by rfl) (Sl.litg (by rfl) (by rfl) (by omega)) ⟨by rfl, by omega⟩ ?_
                    intro v5 w5 hown5 hk5 hgr5 hob5
                    have fr5 := ((fr3.kept k34).kept ((Kept.refl w4).alloc _)).grown hgr5 hlow'
                    have s4 : w5.cell? ⟨g3, 5, none⟩ = some (.slice UA i UC) := fr5.b3.cell 5
                    have s5 := fr5.b3.frozen
                    have s6 := fr5.b3.lt
                    obtain ⟨UA5, UC5, rfl, hU5⟩ := Sl.of_own hown5
                    refine hK.out _ _ (by first | (refine MK.out _ ?_; repeat (first | (with_reducible exact bx) | (with_reducible refine Blk.drew ?_) | (with_reducible refine Blk.alloc ?_ _) | (with_reducible refine Blk.kept ?_ hk4) | (with_reducible refine Blk.grown ?_ hgr5 ne7) | (refine Blk.far ?_ hg37 _)))) (fun hHeld => ?_)
                    clear hK K
                    try simp only [Act.put, List.setIfInBounds_toArray, List.set_cons_zero, List.set_cons_succ]
                    refine wpAnyH_take (i := 12) (oi := { dst := some 57, op := Op.fieldAddr 36 (Operand.tmp 3) 3, type := 0, pos := "law.go:22", after := #[{ on := 0, ground := Ground.phase }, { on := 1, ground := Ground.phase }, { on := 2, ground := Ground.phase }, { on := 3, ground := Ground.phase }, { on := 4, ground := Ground.phase }, { on := 5, ground := Ground.phase }, { on := 6, ground := Ground.phase }, { on := 7, ground := Ground.phase }, { on := 8, ground := Ground.phase }, { on := 9, ground := Ground.phase }, { on := 10, ground := Ground.phase }, { on := 11, ground := Ground.phase }], guard := none }) (v := ?vv13) rfl (by kernel_rfl) (by kernel_rfl) (by kernel_rfl) (fun _ _ _ h => h) (Or.inl ⟨by rfl, ?hy13⟩) (by assumption) ?rest13
                    case hy13 => (intro wS hSw; (try dsimp only at hSw); go_simp; try (with_reducible rfl))
                    try simp only [Act.put, List.setIfInBounds_toArray, List.set_cons_zero, List.set_cons_succ]
                    refine wpAnyH_ready (rs := [13]) (by kernel_rfl) (by simp) ?_
                    refine AllReadyH.cons (o := { dst := none, op := Op.store 34 (Operand.tmp 57) (Operand.tmp 56), type := 0, pos := "law.go:22", after := #[{ on := 12, ground := Ground.data }, { on := 11, ground := Ground.data }, { on := 11, ground := Ground.chain }, { on := 0, ground := Ground.phase }, { on := 1, ground := Ground.phase }, { on := 2, ground := Ground.phase }, { on := 3, ground := Ground.phase }, { on := 4, ground := Ground.phase }, { on := 5, ground := Ground.phase }, { on := 6, ground := Ground.phase }, { on := 7, ground := Ground.phase }, { on := 8, ground := Ground.phase }, { on := 9, ground := Ground.phase }, { on := 10, ground := Ground.phase }, { on := 11, ground := Ground.phase }], guard := none }) rfl (fun K hK => ?step14) ?more14
                    case step14 =>
                      go_simp
                      refine hK.out _ _ (by first | (refine MK.out _ ?_; repeat (first | (with_reducible exact bx) | (with_reducible refine Blk.drew ?_) | (with_reducible refine Blk.alloc ?_ _) | (with_reducible refine Blk.kept ?_ hk4) | (with_reducible refine Blk.grown ?_ hgr5 ne7) | (refine Blk.far ?_ hg37 _)))) (fun hHeld => ?_)
                      clear hK K
                      try simp only [Act.put, List.setIfInBounds_toArray, List.set_cons_zero, List.set_cons_succ]
                      refine wpAnyH_done (by kernel_rfl) ?_ _
                      have low5 := low_push hlow (Nat.le_trans hz5 k34.size) (by simpa using hob5)
                      have fr6 := fr5.set 5 (.slice UA5 (i + 1) UC5)
                      have own6 := own_set1 (g := g3) (i := 5) (u := .slice UA5 (i + 1) UC5) hown5 low5 (by have := fr.l.2.2.2.2.2.1; omega)
                      have hbS5 := ((hbS3.kept k34).kept ((Kept.refl w4).alloc _)).grown0 hgr5 (fun b' o' hn e => by
                        have h1 := HBO.out b' o' hn e
                        intro e'
                        have := hlow b' e'.symm
                        omega)
                      have hbS6 := hbS5.grown0 (grown_set1 w5 g3 5 (.slice UA5 (i + 1) UC5)) (fun b' o' hn e => by
                        have h1 := HBO.out b' o' hn e
                        have h2 := fr.l.2.2.2.2.2.1
                        intro e'
                        injection e' with e'
                        omega)
                      have hz6 : Bz2 ≤ w5.heap.size := by
                        have h1 := hgr5.size
                        have h2 := k34.size
                        rw [World.size_alloc] at h1
                        omega
                      go_wp2_with fail
                      go_roundw
                      case rel =>
                        refine ⟨i + 1, UA5, UC5, hlt, by go_num, ?_, low5, hbS6, by simpa using hz6, by simpa using fr6⟩
                        rw [List.take_add_one, HX.out, List.flatMap_append]
                        exact own6
                      case measure =>
                        simp [intOf]
                        omega
                    exact AllReadyH.nil
                  exact AllReadyH.nil
                exact AllReadyH.nil
              exact AllReadyH.nil
            refine AllReadyH.cons (o := { dst := some 49, op := Op.call { callee := Callee.value (Operand.func 26), args := #[Operand.tmp 48], argTypes := #[23] }, type := 32, pos := "law.go:22", after := #[{ on := 3, ground := Ground.data }], guard := none }) rfl (fun K hK => ?step15) ?more15
            case step15 =>
              go_simp
              go_at_call 26
              refine (HC.out _).mono ?_
              rintro e w4 ⟨rfl, hk4⟩
              have k34 : Kept w3 w4 := Kept.trans (Kept.refl w3).drew hk4
              have cf4 : w4.cell? ⟨g3, 5, none⟩ = some (.slice UA i UC) := k34.cell cf
              have fl4 : g3 < w4.heap.size := Nat.lt_of_lt_of_le fl3 k34.size
              go_wp2_with fail
              refine hK.out _ _ (by first | (refine MK.out _ ?_; repeat (first | (with_reducible exact bx) | (with_reducible refine Blk.drew ?_) | (with_reducible refine Blk.alloc ?_ _) | (with_reducible refine Blk.kept ?_ hk4) | (with_reducible refine Blk.grown ?_ hgr5 ne7) | (refine Blk.far ?_ hg37 _)))) (fun hHeld => ?_)
              clear hK K
              try simp only [Act.put, List.setIfInBounds_toArray, List.set_cons_zero, List.set_cons_succ]
              refine wpAnyH_take (i := 9) (oi := { dst := some 54, op := Op.build 65 #[(0, Operand.tmp 49), (1, Operand.tmp 51), (2, Operand.tmp 53)], type := 65, pos := "law.go:22", after := #[{ on := 4, ground := Ground.data }, { on := 6, ground := Ground.data }, { on := 8, ground := Ground.data }], guard := none }) (v := ?vv16) rfl (by kernel_rfl) (by kernel_rfl) (by kernel_rfl) (fun _ _ _ h => h) (Or.inl ⟨by rfl, ?hy16⟩) (by assumption) ?rest16
              case hy16 => (intro wS hSw; (try dsimp only at hSw); go_simp; try (with_reducible rfl))
              try simp only [Act.put, List.setIfInBounds_toArray, List.set_cons_zero, List.set_cons_succ]
              refine wpAnyH_ready (rs := [1, 10]) (by kernel_rfl) (by simp) ?_
              refine AllReadyH.cons (o := { dst := some 46, op := Op.load 34 (Operand.tmp 45), type := 34, pos := "law.go:22", after := #[{ on := 0, ground := Ground.data }], guard := none }) rfl (fun K hK => ?step17) ?more17
              case step17 =>
                go_simp
                refine hK.out _ _ (by first | (refine MK.out _ ?_; repeat (first | (with_reducible exact bx) | (with_reducible refine Blk.drew ?_) | (with_reducible refine Blk.alloc ?_ _) | (with_reducible refine Blk.kept ?_ hk4) | (with_reducible refine Blk.grown ?_ hgr5 ne7) | (refine Blk.far ?_ hg37 _)))) (fun hHeld => ?_)
                clear hK K
                try simp only [Act.put, List.setIfInBounds_toArray, List.set_cons_zero, List.set_cons_succ]
                refine wpAnyH_ready (rs := [10]) (by kernel_rfl) (by simp) ?_
                refine AllReadyH.cons (o := { dst := some 55, op := Op.buildSlice 34 1 #[(0, Operand.tmp 54)], type := 34, pos := "law.go:22", after := #[{ on := 9, ground := Ground.data }], guard := none }) rfl (fun K hK => ?step18) ?more18
                case step18 =>
                  go_simp
                  refine hK.out _ _ (by first | (refine MK.out _ ?_; repeat (first | (with_reducible exact bx) | (with_reducible refine Blk.drew ?_) | (with_reducible refine Blk.alloc ?_ _) | (with_reducible refine Blk.kept ?_ hk4) | (with_reducible refine Blk.grown ?_ hgr5 ne7) | (refine Blk.far ?_ hg37 _)))) (fun hHeld => ?_)
                  clear hK K
                  try simp only [Act.put, List.setIfInBounds_toArray, List.set_cons_zero, List.set_cons_succ]
                  refine wpAnyH_ready (rs := [11]) (by kernel_rfl) (by simp) ?_
                  refine AllReadyH.cons (o := { dst := some 56, op := Op.call { callee := Callee.builtin Builtin.append, args := #[Operand.tmp 46, Operand.tmp 55], argTypes := #[34, 34] }, type := 34, pos := "law.go:22", after := #[{ on := 1, ground := Ground.data }, { on := 10, ground := Ground.data }, { on := 4, ground := Ground.chain }], guard := none }) rfl (fun K hK => ?step19) ?more19
                  case step19 =>
                    refine step_app w (by rfl) _ _ (by rfl) appT_att (by rfl) ((own_kept own3 k34).alloc _) ((fr3.k.trans k34).alloc _) (by rfl) (Sl.litg (by rfl) (by rfl) (by omega)) ⟨by rfl, by omega⟩ ?_
                    intro v5 w5 hown5 hk5 hgr5 hob5
                    have fr5 := ((fr3.kept k34).kept ((Kept.refl w4).alloc _)).grown hgr5 hlow'
                    have s4 : w5.cell? ⟨g3, 5, none⟩ = some (.slice UA i UC) := fr5.b3.cell 5
                    have s5 := fr5.b3.frozen
                    have s6 := fr5.b3.lt
                    obtain ⟨UA5, UC5, rfl, hU5⟩ := Sl.of_own hown5
                    refine hK.out _ _ (by first | (refine MK.out _ ?_; repeat (first | (with_reducible exact bx) | (with_reducible refine Blk.drew ?_) | (with_reducible refine Blk.alloc ?_ _) | (with_reducible refine Blk.kept ?_ hk4) | (with_reducible refine Blk.grown ?_ hgr5 ne7) | (refine Blk.far ?_ hg37 _)))) (fun hHeld => ?_)
                    clear hK K
                    try simp only [Act.put, List.setIfInBounds_toArray, List.set_cons_zero, List.set_cons_succ]
                    refine wpAnyH_take (i := 12) (oi := { dst := some 57, op := Op.fieldAddr 36 (Operand.tmp 3) 3, type := 0, pos := "law.go:22", after := #[{ on := 0, ground := Ground.phase }, { on := 1, ground := Ground.phase }, { on := 2, ground := Ground.phase }, { on := 3, ground := Ground.phase }, { on := 4, ground := Ground.phase }, { on := 5, ground := Ground.phase }, { on := 6, ground := Ground.phase }, { on := 7, ground := Ground.phase }, { on := 8, ground := Ground.phase }, { on := 9, ground := Ground.phase }, { on := 10, ground := Ground.phase }, { on := 11, ground := Ground.phase }], guard := none }) (v := ?vv20) rfl (by kernel_rfl) (by kernel_rfl) (by kernel_rfl) (fun _ _ _ h => h) (Or.inl ⟨by rfl, ?hy20⟩) (by assumption) ?rest20
                    case hy20 => (intro wS hSw; (try dsimp only at hSw); go_simp; try (with_reducible rfl))
                    try simp only [Act.put, List.setIfInBounds_toArray, List.set_cons_zero, List.set_cons_succ]
                    refine wpAnyH_ready (rs := [13]) (by kernel_rfl) (by simp) ?_
                    refine AllReadyH.cons (o := { dst := none, op := Op.store 34 (Operand.tmp 57) (Operand.tmp 56), type := 0, pos := "law.go:22", after := #[{ on := 12, ground := Ground.data }, { on := 11, ground := Ground.data }, { on := 11, ground := Ground.chain }, { on := 0, ground := Ground.phase }, { on := 1, ground := Ground.phase }, { on := 2, ground := Ground.phase }, { on := 3, ground := Ground.phase }, { on := 4, ground := Ground.phase }, { on := 5, ground := Ground.phase }, { on := 6, ground := Ground.phase }, { on := 7, ground := Ground.phase }, { on := 8, ground := Ground.phase }, { on := 9, ground := Ground.phase }, { on := 10, ground := Ground.phase }, { on := 11, ground := Ground.phase }], guard := none }) rfl (fun K hK => ?step21) ?more21
                    case step21 =>
                      go_simp
                      refine hK.out _ _ (by first | (refine MK.out _ ?_; repeat (first | (with_reducible exact bx) | (with_reducible refine Blk.drew ?_) | (with_reducible refine Blk.alloc ?_ _) | (with_reducible refine Blk.kept ?_ hk4) | (with_reducible refine Blk.grown ?_ hgr5 ne7) | (refine Blk.far ?_ hg37 _)))) (fun hHeld => ?_)
                      clear hK K
                      try simp only [Act.put, List.setIfInBounds_toArray, List.set_cons_zero, List.set_cons_succ]
                      refine wpAnyH_done (by kernel_rfl) ?_ _
                      have low5 := low_push hlow (Nat.le_trans hz5 k34.size) (by simpa using hob5)
                      have fr6 := fr5.set 5 (.slice UA5 (i + 1) UC5)
                      have own6 := own_set1 (g := g3) (i := 5) (u := .slice UA5 (i + 1) UC5) hown5 low5 (by have := fr.l.2.2.2.2.2.1; omega)
                      have hbS5 := ((hbS3.kept k34).kept ((Kept.refl w4).alloc _)).grown0 hgr5 (fun b' o' hn e => by
                        have h1 := HBO.out b' o' hn e
                        intro e'
                        have := hlow b' e'.symm
                        omega)
                      have hbS6 := hbS5.grown0 (grown_set1 w5 g3 5 (.slice UA5 (i + 1) UC5)) (fun b' o' hn e => by
                        have h1 := HBO.out b' o' hn e
                        have h2 := fr.l.2.2.2.2.2.1
                        intro e'
                        injection e' with e'
                        omega)
                      have hz6 : Bz2 ≤ w5.heap.size := by
                        have h1 := hgr5.size
                        have h2 := k34.size
                        rw [World.size_alloc] at h1
                        omega
                      go_wp2_with fail
                      go_roundw
                      case rel =>
                        refine ⟨i + 1, UA5, UC5, hlt, by go_num, ?_, low5, hbS6, by simpa using hz6, by simpa using fr6⟩
                        rw [List.take_add_one, HX.out, List.flatMap_append]
                        exact own6
                      case measure =>
                        simp [intOf]
                        omega
                    exact AllReadyH.nil
                  exact AllReadyH.nil
                exact AllReadyH.nil
              refine AllReadyH.cons (o := { dst := some 55, op := Op.buildSlice 34 1 #[(0, Operand.tmp 54)], type := 34, pos := "law.go:22", after := #[{ on := 9, ground := Ground.data }], guard := none }) rfl (fun K hK => ?step22) ?more22
              case step22 =>
                go_simp
                refine hK.out _ _ (by first | (refine MK.out _ ?_; repeat (first | (with_reducible exact bx) | (with_reducible refine Blk.drew ?_) | (with_reducible refine Blk.alloc ?_ _) | (with_reducible refine Blk.kept ?_ hk4) | (with_reducible refine Blk.grown ?_ hgr5 ne7) | (refine Blk.far ?_ hg37 _)))) (fun hHeld => ?_)
                clear hK K
                try simp only [Act.put, List.setIfInBounds_toArray, List.set_cons_zero, List.set_cons_succ]
                refine wpAnyH_ready (rs := [1]) (by kernel_rfl) (by simp) ?_
                refine AllReadyH.cons (o := { dst := some 46, op := Op.load 34 (Operand.tmp 45), type := 34, pos := "law.go:22", after := #[{ on := 0, ground := Ground.data }], guard := none }) rfl (fun K hK => ?step23) ?more23
                case step23 =>
                  go_simp
                  refine hK.out _ _ (by first | (refine MK.out _ ?_; repeat (first | (with_reducible exact bx) | (with_reducible refine Blk.drew ?_) | (with_reducible refine Blk.alloc ?_ _) | (with_reducible refine Blk.kept ?_ hk4) | (with_reducible refine Blk.grown ?_ hgr5 ne7) | (refine Blk.far ?_ hg37 _)))) (fun hHeld => ?_)
                  clear hK K
                  try simp only [Act.put, List.setIfInBounds_toArray, List.set_cons_zero, List.set_cons_succ]
                  refine wpAnyH_ready (rs := [11]) (by kernel_rfl) (by simp) ?_
                  refine AllReadyH.cons (o := { dst := some 56, op := Op.call { callee := Callee.builtin Builtin.append, args := #[Operand.tmp 46, Operand.tmp 55], argTypes := #[34, 34] }, type := 34, pos := "law.go:22", after := #[{ on := 1, ground := Ground.data }, { on := 10, ground := Ground.data }, { on := 4, ground := Ground.chain }], guard := none }) rfl (fun K hK => ?step24) ?more24
                  case step24 =>
                    refine step_app w (by rfl) _ _ (by rfl) appT_att (by rfl) ((own_kept own3 k34).alloc _) ((fr3.k.trans k34).alloc _) (by rfl) (Sl.litg (by rfl) (by rfl) (by omega)) ⟨by rfl, by omega⟩ ?_
                    intro v5 w5 hown5 hk5 hgr5 hob5
                    have fr5 := ((fr3.kept k34).kept ((Kept.refl w4).alloc _)).grown hgr5 hlow'
                    have s4 : w5.cell? ⟨g3, 5, none⟩ = some (.slice UA i UC) := fr5.b3.cell 5
                    have s5 := fr5.b3.frozen
                    have s6 := fr5.b3.lt
                    obtain ⟨UA5, UC5, rfl, hU5⟩ := Sl.of_own hown5
                    refine hK.out _ _ (by first | (refine MK.out _ ?_; repeat (first | (with_reducible exact bx) | (with_reducible refine Blk.drew ?_) | (with_reducible refine Blk.alloc ?_ _) | (with_reducible refine Blk.kept ?_ hk4) | (with_reducible refine Blk.grown ?_ hgr5 ne7) | (refine Blk.far ?_ hg37 _)))) (fun hHeld => ?_)
                    clear hK K
                    try simp only [Act.put, List.setIfInBounds_toArray, List.set_cons_zero, List.set_cons_succ]
                    refine wpAnyH_take (i := 12) (oi := { dst := some 57, op := Op.fieldAddr 36 (Operand.tmp 3) 3, type := 0, pos := "law.go:22", after := #[{ on := 0, ground := Ground.phase }, { on := 1, ground := Ground.phase }, { on := 2, ground := Ground.phase }, { on := 3, ground := Ground.phase }, { on := 4, ground := Ground.phase }, { on := 5, ground := Ground.phase }, { on := 6, ground := Ground.phase }, { on := 7, ground := Ground.phase }, { on := 8, ground := Ground.phase }, { on := 9, ground := Ground.phase }, { on := 10, ground := Ground.phase }, { on := 11, ground := Ground.phase }], guard := none }) (v := ?vv25) rfl (by kernel_rfl) (by kernel_rfl) (by kernel_rfl) (fun _ _ _ h => h) (Or.inl ⟨by rfl, ?hy25⟩) (by assumption) ?rest25
                    case hy25 => (intro wS hSw; (try dsimp only at hSw); go_simp; try (with_reducible rfl))
                    try simp only [Act.put, List.setIfInBounds_toArray, List.set_cons_zero, List.set_cons_succ]
                    refine wpAnyH_ready (rs := [13]) (by kernel_rfl) (by simp) ?_
                    refine AllReadyH.cons (o := { dst := none, op := Op.store 34 (Operand.tmp 57) (Operand.tmp 56), type := 0, pos := "law.go:22", after := #[{ on := 12, ground := Ground.data }, { on := 11, ground := Ground.data }, { on := 11, ground := Ground.chain }, { on := 0, ground := Ground.phase }, { on := 1, ground := Ground.phase }, { on := 2, ground := Ground.phase }, { on := 3, ground := Ground.phase }, { on := 4, ground := Ground.phase }, { on := 5, ground := Ground.phase }, { on := 6, ground := Ground.phase }, { on := 7, ground := Ground.phase }, { on := 8, ground := Ground.phase }, { on := 9, ground := Ground.phase }, { on := 10, ground := Ground.phase }, { on := 11, ground := Ground.phase }], guard := none }) rfl (fun K hK => ?step26) ?more26
                    case step26 =>
                      go_simp
                      refine hK.out _ _ (by first | (refine MK.out _ ?_; repeat (first | (with_reducible exact bx) | (with_reducible refine Blk.drew ?_) | (with_reducible refine Blk.alloc ?_ _) | (with_reducible refine Blk.kept ?_ hk4) | (with_reducible refine Blk.grown ?_ hgr5 ne7) | (refine Blk.far ?_ hg37 _)))) (fun hHeld => ?_)
                      clear hK K
                      try simp only [Act.put, List.setIfInBounds_toArray, List.set_cons_zero, List.set_cons_succ]
                      refine wpAnyH_done (by kernel_rfl) ?_ _
                      have low5 := low_push hlow (Nat.le_trans hz5 k34.size) (by simpa using hob5)
                      have fr6 := fr5.set 5 (.slice UA5 (i + 1) UC5)
                      have own6 := own_set1 (g := g3) (i := 5) (u := .slice UA5 (i + 1) UC5) hown5 low5 (by have := fr.l.2.2.2.2.2.1; omega)
                      have hbS5 := ((hbS3.kept k34).kept ((Kept.refl w4).alloc _)).grown0 hgr5 (fun b' o' hn e => by
                        have h1 := HBO.out b' o' hn e
                        intro e'
                        have := hlow b' e'.symm
                        omega)
                      have hbS6 := hbS5.grown0 (grown_set1 w5 g3 5 (.slice UA5 (i + 1) UC5)) (fun b' o' hn e => by
                        have h1 := HBO.out b' o' hn e
                        have h2 := fr.l.2.2.2.2.2.1
                        intro e'
                        injection e' with e'
                        omega)
                      have hz6 : Bz2 ≤ w5.heap.size := by
                        have h1 := hgr5.size
                        have h2 := k34.size
                        rw [World.size_alloc] at h1
                        omega
                      go_wp2_with fail
                      go_roundw
                      case rel =>
                        refine ⟨i + 1, UA5, UC5, hlt, by go_num, ?_, low5, hbS6, by simpa using hz6, by simpa using fr6⟩
                        rw [List.take_add_one, HX.out, List.flatMap_append]
                        exact own6
                      case measure =>
                        simp [intOf]
                        omega
                    exact AllReadyH.nil
                  exact AllReadyH.nil
                exact AllReadyH.nil
              exact AllReadyH.nil
            exact AllReadyH.nil
          · obtain rfl : i = an := by omega
            obtain ⟨wP, hWP⟩ : ∃ z, z = wr := ⟨_, rfl⟩
            subst hWP
            have hal := ha.llen (enc := Att.cells) (fun _ => rfl) (by omega)
            rw [List.take_of_length_le (l := al) (by omega)] at hown
            have haS := sl_own hown
            have hao : ∀ b o, 0 < i → UA = some ⟨b, o, none⟩ → Bz ≤ b ∧ b < wP.heap.size := fun b o hn e => by
              have h1 := hlow b (by rw [e]; rfl)
              have h2 := haS.lt (by omega) hn b o e
              omega
            have HAO := Lib.hid hao
            have hzP := fr.z
            have hbS' := hbS
            have hL := h.llen Nd.cells_len (by omega)
            have HL := Lib.hid hL
            have hB2 : Bz2 ≤ wP.heap.size := hz3
            clear hown hlow hao ha hL
            have fc := fr.b1.cell
            go_wp2_with fail
            go_loopw [62] (fun s wr => ∃ (q : Nat) (KA : Option Addr) (KC : Nat) (O : List Nd), q ≤ kn ∧ s = .int .i64 q ∧ wr.ownsRow w.heap.size 36 9 (.slice KA q KC) q (O.flatMap Nd.cells) ∧ (∀ g', (Value.slice KA q KC).ownBlock = some g' → wP.heap.size ≤ g') ∧ Own wP wr 0 (.slice KA q KC) O ∧ Hid (O.map Nd.tr = (ks.map Nd.tr).take q) ∧ Sl wr 2 VA j VC (bs.flatMap Bd.cells) ∧ Sl wr 5 UA i UC (al.flatMap Att.cells) ∧ wP.heap.size ≤ wr.heap.size ∧
              Fr w wr g1 g2 g3 Bz (ndc k n bA j bc aA i ac t g kA kn kc) (ndc k n VA j VC UA i UC t g KA q KC) 28 36) (fun s _ => kn - (intOf s).toNat)
            case atStart => exact ⟨0, none, 0, [], Nat.zero_le _, rfl, ⟨rfl, .inl ⟨rfl, rfl⟩⟩, fun q hq => (by simp [Value.ownBlock] at hq), Own.nil _ _ _ _, rfl, hbS, haS, Nat.le_refl _, fr⟩
            case round =>
              clear fr fc hbS haS hbS'
              obtain ⟨q, KA, KC, O, hq, rfl, hown, low3, HO, HI, hbS, haS, hz4, fr⟩ := hrel
              by_cases hlt : q < kn
              · obtain ⟨b, o, yk, yn, ybA, ybn, ybc, ybs, yaA, yan, yac, yal, yt, yg, ykA, ykn, ykc, yks, rfl, hy, y0, y1, y2, y3, y4, y5, y6, y7, y8, hb'⟩ := cells9 (h.kept fr.k) hlt
                have hyo := (HKS.out _ (List.mem_of_getElem? hy)).kept fr.k
                have hih := IH.out _ (List.mem_of_getElem? hy)
                have hyt := map_get (f := Nd.tr) hy
                have hsm := HSM.out
                rw [Nd.tr_mk] at hsm
                have hq100 : ks.length ≤ 100 ∧ ∀ x ∈ ks.map Nd.tr, Small x := by
                  cases hsm with
                  | mk h1 h2 h3 h4 => exact ⟨by simpa using h3, h4⟩
                have hq1000 : q + 1 ≤ 1000 := by
                  have := hq100.1
                  have := HL.out
                  omega
                have hys := hq100.2 _ (List.mem_of_getElem? hyt)
                have HYT := Lib.hid hyt
                clear hsm hq100 hyt hy
                have kb := (Kept.refl wr).alloc (.cells (ndc yk yn ybA ybn ybc yaA yan yac yt yg ykA ykn ykc) 28)
                have bx := Blk.new wr (ndc yk yn ybA ybn ybc yaA yan yac yt yg ykA ykn ykc) 28
                go_upto_region 15 with fail
                generalize wr.alloc (.cells (ndc yk yn ybA ybn ybc yaA yan yac yt yg ykA ykn ykc) 28) = w3 at kb bx ⊢
                obtain ⟨g7, hg7⟩ : ∃ g7, wr.heap.size = g7 := ⟨_, rfl⟩
                rw [hg7] at bx ⊢
                have own3 := own_kept hown kb
                have fr3 := fr.kept kb
                have hbS3 := hbS.kept kb
                have haS3 := haS.kept kb
                have HO3 := HO.kept kb
                have hyo3 := hyo.kept kb
                have hz5 := Nat.le_trans hz4 kb.size
                have hg37 : g7 ≠ g3 := by
                  have := fr.l.2.2.2.2.2.1
                  have := fr.z
                  omega
                have ne7 : some g7 ≠ (Value.slice KA q KC).ownBlock := by
                  intro e
                  have := (hown.lt g7 e.symm).2
                  omega
                have lowb : ∀ g', (Value.slice KA q KC).ownBlock = some g' → wP.heap.size ≤ g' ∧ g' < w3.heap.size := fun g' e => ⟨low3 g' e, by
                  have := (hown.lt g' e).2
                  have := kb.size
                  omega⟩
                have cf : w3.cell? ⟨g3, 8, none⟩ = some (.slice KA q KC) := fr3.b3.cell 8
                have fl3 := fr3.b3.lt
                have ff3 := fr3.b3.frozen
                clear hg7 y0 y1 y2 y3 y4 y5 y6 y7 y8
                have MK : Hid (∀ w', Blk w' g7 (ndc yk yn ybA ybn ybc yaA yan yac yt yg ykA ykn ykc) 28 → w'.cell? ⟨g7, 0, none⟩ = some (.int .i64 yk) ∧ w'.cell? ⟨g7, 1, none⟩ = some (.string yn.u) ∧ w'.cell? ⟨g7, 2, none⟩ = some (.string yn.l) ∧ w'.cell? ⟨g7, 3, none⟩ = some (.string yn.p) ∧ w'.cell? ⟨g7, 4, none⟩ = some (.slice ybA ybn ybc) ∧ w'.cell? ⟨g7, 5, none⟩ = some (.slice yaA yan yac) ∧ w'.cell? ⟨g7, 6, none⟩ = some (.string yt) ∧ w'.cell? ⟨g7, 7, none⟩ = some (.string yg) ∧ w'.cell? ⟨g7, 8, none⟩ = some (.slice ykA ykn ykc) ∧ g7 < w'.heap.size) :=
                  fun w' bk => ⟨bk.cell 0, bk.cell 1, bk.cell 2, bk.cell 3, bk.cell 4, bk.cell 5, bk.cell 6, bk.cell 7, bk.cell 8, bk.lt⟩
                have hlow' : ∀ g', (Value.slice KA q KC).ownBlock = some g' → Bz ≤ g' := fun g' hg => by
                  have := low3 g' hg
                  omega
                refine wp_region_held_drew (S := fun w' => w'.cell? ⟨g7, 0, none⟩ = some (.int .i64 yk) ∧ w'.cell? ⟨g7, 1, none⟩ = some (.string yn.u) ∧ w'.cell? ⟨g7, 2, none⟩ = some (.string yn.l) ∧ w'.cell? ⟨g7, 3, none⟩ = some (.string yn.p) ∧ w'.cell? ⟨g7, 4, none⟩ = some (.slice ybA ybn ybc) ∧ w'.cell? ⟨g7, 5, none⟩ = some (.slice yaA yan yac) ∧ w'.cell? ⟨g7, 6, none⟩ = some (.string yt) ∧ w'.cell? ⟨g7, 7, none⟩ = some (.string yg) ∧ w'.cell? ⟨g7, 8, none⟩ = some (.slice ykA ykn ykc) ∧ g7 < w'.heap.size) (by kernel_rfl) (MK.out _ bx.drew) (fun hHeld => ?_)
                skip
                refine wpAnyH_take (i := 0) (oi := { dst := some 66, op := Op.fieldAddr 36 (Operand.tmp 3) 6, type := 0, pos := "law.go:25", after := #[], guard := none }) (v := ?vvk1) rfl (by kernel_rfl) (by kernel_rfl) (by kernel_rfl) (fun _ _ _ h => h) (Or.inl ⟨by rfl, ?hyk1⟩) (by assumption) ?restk1
                case hyk1 => (intro wS hSw; (try dsimp only at hSw); (repeat (obtain ⟨_, hSw⟩ := hSw)); go_simp; try (with_reducible rfl))
                try simp only [Act.put, List.setIfInBounds_toArray, List.set_cons_zero, List.set_cons_succ]
                refine wpAnyH_take (i := 2) (oi := { dst := some 68, op := Op.load 28 (Operand.tmp 9), type := 28, pos := "law.go:25", after := #[], guard := none }) (v := ?vvk2) rfl (by kernel_rfl) (by kernel_rfl) (by kernel_rfl) (fun _ _ _ h => h) (Or.inl ⟨by rfl, ?hyk2⟩) (by assumption) ?restk2
                case hyk2 => (intro wS hSw; (try dsimp only at hSw); (repeat (obtain ⟨_, hSw⟩ := hSw)); go_simp; try (with_reducible rfl))
                try simp only [Act.put, List.setIfInBounds_toArray, List.set_cons_zero, List.set_cons_succ]
                refine wpAnyH_ready (rs := [1, 3]) (by kernel_rfl) (by simp) ?_
                refine AllReadyH.cons (o := { dst := some 67, op := Op.load 30 (Operand.tmp 66), type := 30, pos := "law.go:25", after := #[{ on := 0, ground := Ground.data }], guard := none }) rfl (fun K hK => ?stepk3) ?morek3
                case stepk3 =>
                  go_simp
                  refine hK.out _ _ (by first | (refine MK.out _ ?_; repeat (first | (with_reducible exact bx) | (with_reducible refine Blk.drew ?_) | (with_reducible refine Blk.alloc ?_ _) | (with_reducible refine Blk.kept ?_ hk4) | (with_reducible refine Blk.grown ?_ hgr5 ne7) | (refine Blk.far ?_ hg37 _)))) (fun hHeld => ?_)
                  clear hK K
                  try simp only [Act.put, List.setIfInBounds_toArray, List.set_cons_zero, List.set_cons_succ]
                  refine wpAnyH_ready (rs := [3]) (by kernel_rfl) (by simp) ?_
                  refine AllReadyH.cons (o := { dst := some 69, op := Op.call { callee := Callee.value (Operand.func 9), args := #[Operand.tmp 68], argTypes := #[28] }, type := 36, pos := "law.go:25", after := #[{ on := 2, ground := Ground.data }], guard := none }) rfl (fun K hK => ?stepk4) ?morek4
                  case stepk4 =>
                    go_simp
                    go_at_call 9
                    refine (hih _ (hyo3.kept (Kept.refl w3).drew) hys).mono ?_
                    rintro e w4 ⟨y, rfl, yok, ytr, yout, hk4⟩
                    have HY := Lib.hid (show _ ∧ _ ∧ _ from ⟨yok, ytr, yout⟩)
                    clear yok ytr yout
                    obtain ⟨zk, zn, zbA, zbn, zbc, zbs, zaA, zan, zac, zal, zt, zg, zkA, zkn, zkc, zks⟩ := y
                    rw [Nd.val_mk]
                    have k34 : Kept w3 w4 := Kept.trans (Kept.refl w3).drew hk4
                    have cf4 : w4.cell? ⟨g3, 8, none⟩ = some (.slice KA q KC) := k34.cell cf
                    have fl4 : g3 < w4.heap.size := Nat.lt_of_lt_of_le fl3 k34.size
                    go_wp2_with fail
                    refine hK.out _ _ (by first | (refine MK.out _ ?_; repeat (first | (with_reducible exact bx) | (with_reducible refine Blk.drew ?_) | (with_reducible refine Blk.alloc ?_ _) | (with_reducible refine Blk.kept ?_ hk4) | (with_reducible refine Blk.grown ?_ hgr5 ne7) | (refine Blk.far ?_ hg37 _)))) (fun hHeld => ?_)
                    clear hK K
                    try simp only [Act.put, List.setIfInBounds_toArray, List.set_cons_zero, List.set_cons_succ]
                    refine wpAnyH_ready (rs := [4]) (by kernel_rfl) (by simp) ?_
                    refine AllReadyH.cons (o := { dst := some 70, op := Op.buildSlice 30 1 #[(0, Operand.tmp 69)], type := 30, pos := "law.go:25", after := #[{ on := 3, ground := Ground.data }], guard := none }) rfl (fun K hK => ?stepk5) ?morek5
                    case stepk5 =>
                      go_simp
                      refine hK.out _ _ (by first | (refine MK.out _ ?_; repeat (first | (with_reducible exact bx) | (with_reducible refine Blk.drew ?_) | (with_reducible refine Blk.alloc ?_ _) | (with_reducible refine Blk.kept ?_ hk4) | (with_reducible refine Blk.grown ?_ hgr5 ne7) | (refine Blk.far ?_ hg37 _)))) (fun hHeld => ?_)
                      clear hK K
                      try simp only [Act.put, List.setIfInBounds_toArray, List.set_cons_zero, List.set_cons_succ]
                      refine wpAnyH_ready (rs := [5]) (by kernel_rfl) (by simp) ?_
                      refine AllReadyH.cons (o := { dst := some 71, op := Op.call { callee := Callee.builtin Builtin.append, args := #[Operand.tmp 67, Operand.tmp 70], argTypes := #[30, 30] }, type := 30, pos := "law.go:25", after := #[{ on := 1, ground := Ground.data }, { on := 4, ground := Ground.data }, { on := 3, ground := Ground.chain }], guard := none }) rfl (fun K hK => ?stepk6) ?morek6
                      case stepk6 =>
                        refine step_app w (by rfl) _ _ (by rfl) appT_nd (by rfl) ((own_kept own3 k34).alloc _) ((fr3.k.trans k34).alloc _) (by rfl) (Sl.litg (by rfl) (by rfl) (by omega)) ⟨by rfl, by omega⟩ ?_
                        intro v5 w5 hown5 hk5 hgr5 hob5
                        have fr5 := ((fr3.kept k34).kept ((Kept.refl w4).alloc _)).grown hgr5 hlow'
                        have s4 : w5.cell? ⟨g3, 8, none⟩ = some (.slice KA q KC) := fr5.b3.cell 8
                        have s5 := fr5.b3.frozen
                        have s6 := fr5.b3.lt
                        obtain ⟨KA5, KC5, rfl, hU5⟩ := Sl.of_own hown5
                        refine hK.out _ _ (by first | (refine MK.out _ ?_; repeat (first | (with_reducible exact bx) | (with_reducible refine Blk.drew ?_) | (with_reducible refine Blk.alloc ?_ _) | (with_reducible refine Blk.kept ?_ hk4) | (with_reducible refine Blk.grown ?_ hgr5 ne7) | (refine Blk.far ?_ hg37 _)))) (fun hHeld => ?_)
                        clear hK K
                        try simp only [Act.put, List.setIfInBounds_toArray, List.set_cons_zero, List.set_cons_succ]
                        refine wpAnyH_take (i := 6) (oi := { dst := some 72, op := Op.fieldAddr 36 (Operand.tmp 3) 6, type := 0, pos := "law.go:25", after := #[{ on := 0, ground := Ground.phase }, { on := 1, ground := Ground.phase }, { on := 2, ground := Ground.phase }, { on := 3, ground := Ground.phase }, { on := 4, ground := Ground.phase }, { on := 5, ground := Ground.phase }], guard := none }) (v := ?vvk7) rfl (by kernel_rfl) (by kernel_rfl) (by kernel_rfl) (fun _ _ _ h => h) (Or.inl ⟨by rfl, ?hyk7⟩) (by assumption) ?restk7
                        case hyk7 => (intro wS hSw; (try dsimp only at hSw); (repeat (obtain ⟨_, hSw⟩ := hSw)); go_simp; try (with_reducible rfl))
                        try simp only [Act.put, List.setIfInBounds_toArray, List.set_cons_zero, List.set_cons_succ]
                        refine wpAnyH_ready (rs := [7]) (by kernel_rfl) (by simp) ?_
                        refine AllReadyH.cons (o := { dst := none, op := Op.store 30 (Operand.tmp 72) (Operand.tmp 71), type := 0, pos := "law.go:25", after := #[{ on := 6, ground := Ground.data }, { on := 5, ground := Ground.data }, { on := 5, ground := Ground.chain }, { on := 0, ground := Ground.phase }, { on := 1, ground := Ground.phase }, { on := 2, ground := Ground.phase }, { on := 3, ground := Ground.phase }, { on := 4, ground := Ground.phase }, { on := 5, ground := Ground.phase }], guard := none }) rfl (fun K hK => ?stepk8) ?morek8
                        case stepk8 =>
                          go_simp
                          refine hK.out _ _ (by first | (refine MK.out _ ?_; repeat (first | (with_reducible exact bx) | (with_reducible refine Blk.drew ?_) | (with_reducible refine Blk.alloc ?_ _) | (with_reducible refine Blk.kept ?_ hk4) | (with_reducible refine Blk.grown ?_ hgr5 ne7) | (refine Blk.far ?_ hg37 _)))) (fun hHeld => ?_)
                          clear hK K
                          try simp only [Act.put, List.setIfInBounds_toArray, List.set_cons_zero, List.set_cons_succ]
                          refine wpAnyH_done (by kernel_rfl) ?_ _
                          have hob6 : (Value.slice KA5 (q + 1) KC5).ownBlock = (Value.slice KA q KC).ownBlock ∨ (Value.slice KA5 (q + 1) KC5).ownBlock = some (w4.heap.size + 1) := by simpa using hob5
                          have low5 := low_push low3 (Nat.le_trans hz5 k34.size) hob6
                          have fr6 := fr5.set 8 (.slice KA5 (q + 1) KC5)
                          have own6 := own_set1 (g := g3) (i := 8) (u := .slice KA5 (q + 1) KC5) hown5 low5 (by have := fr.l.2.2.2.2.2.1; omega)
                          have hbS5 := ((hbS3.kept k34).kept ((Kept.refl w4).alloc _)).grown0 hgr5 (fun b' o' hn e => by
                            have h1 := HBO.out b' o' hn e
                            intro e'
                            have := low3 b' e'.symm
                            omega)
                          have hbS6 := hbS5.grown0 (grown_set1 w5 g3 8 (.slice KA5 (q + 1) KC5)) (fun b' o' hn e => by
                            have h1 := HBO.out b' o' hn e
                            have h2 := fr.l.2.2.2.2.2.1
                            intro e'
                            injection e' with e'
                            omega)
                          have haS5 := ((haS3.kept k34).kept ((Kept.refl w4).alloc _)).grown0 hgr5 (fun b' o' hn e => by
                            have h1 := HAO.out b' o' hn e
                            intro e'
                            have := low3 b' e'.symm
                            omega)
                          have haS6 := haS5.grown0 (grown_set1 w5 g3 8 (.slice KA5 (q + 1) KC5)) (fun b' o' hn e => by
                            have h1 := HAO.out b' o' hn e
                            have h2 := fr.l.2.2.2.2.2.1
                            intro e'
                            injection e' with e'
                            omega)
                          have HO5 := Own.push (wc := w3) (HO3.kept k34) (Nat.zero_le _) HY.out.1 (HY.out.2.2.mono (fun b hb => Or.inr hb)) hz5 lowb hgr5 hob6
                          have HO6 : Own wP (w5.setCell ⟨g3, 8, none⟩ (.slice KA5 (q + 1) KC5)) 0 (.slice KA5 (q + 1) KC5) (O ++ [Nd.mk zk zn zbA zbn zbc zbs zaA zan zac zal zt zg zkA zkn zkc zks]) := fun x hx => ⟨(HO5 x hx).1.grown (grown_set1 w5 g3 8 _) ((HO5 x hx).2.mono (fun b hb => by
                            have h2 := fr.l.2.2.2.2.2.1
                            intro e'
                            injection e' with e'
                            omega)), (HO5 x hx).2⟩
                          have hz6 : wP.heap.size ≤ w5.heap.size := by
                            have h1 := hgr5.size
                            have h2 := k34.size
                            rw [World.size_alloc] at h1
                            omega
                          go_wp2_with fail
                          go_roundw
                          case rel =>
                            refine ⟨q + 1, KA5, KC5, O ++ [Nd.mk zk zn zbA zbn zbc zbs zaA zan zac zal zt zg zkA zkn zkc zks], hlt, by go_num, ?_, low5, HO6, ?_, hbS6, haS6, by simpa using hz6, by simpa using fr6⟩
                            · rw [List.flatMap_append]
                              exact own6
                            · unfold Hid
                              rw [List.map_append, HI.out, List.map_singleton, List.take_add_one, HYT.out, HY.out.2.1]
                              rfl
                          case measure =>
                            simp [intOf]
                            omega
                        exact AllReadyH.nil
                      exact AllReadyH.nil
                    exact AllReadyH.nil
                  exact AllReadyH.nil
                refine AllReadyH.cons (o := { dst := some 69, op := Op.call { callee := Callee.value (Operand.func 9), args := #[Operand.tmp 68], argTypes := #[28] }, type := 36, pos := "law.go:25", after := #[{ on := 2, ground := Ground.data }], guard := none }) rfl (fun K hK => ?stepk9) ?morek9
                case stepk9 =>
                  go_simp
                  go_at_call 9
                  refine (hih _ (hyo3.kept (Kept.refl w3).drew) hys).mono ?_
                  rintro e w4 ⟨y, rfl, yok, ytr, yout, hk4⟩
                  have HY := Lib.hid (show _ ∧ _ ∧ _ from ⟨yok, ytr, yout⟩)
                  clear yok ytr yout
                  obtain ⟨zk, zn, zbA, zbn, zbc, zbs, zaA, zan, zac, zal, zt, zg, zkA, zkn, zkc, zks⟩ := y
                  rw [Nd.val_mk]
                  have k34 : Kept w3 w4 := Kept.trans (Kept.refl w3).drew hk4
                  have cf4 : w4.cell? ⟨g3, 8, none⟩ = some (.slice KA q KC) := k34.cell cf
                  have fl4 : g3 < w4.heap.size := Nat.lt_of_lt_of_le fl3 k34.size
                  go_wp2_with fail
                  refine hK.out _ _ (by first | (refine MK.out _ ?_; repeat (first | (with_reducible exact bx) | (with_reducible refine Blk.drew ?_) | (with_reducible refine Blk.alloc ?_ _) | (with_reducible refine Blk.kept ?_ hk4) | (with_reducible refine Blk.grown ?_ hgr5 ne7) | (refine Blk.far ?_ hg37 _)))) (fun hHeld => ?_)
                  clear hK K
                  try simp only [Act.put, List.setIfInBounds_toArray, List.set_cons_zero, List.set_cons_succ]
                  refine wpAnyH_ready (rs := [1, 4]) (by kernel_rfl) (by simp) ?_
                  refine AllReadyH.cons (o := { dst := some 67, op := Op.load 30 (Operand.tmp 66), type := 30, pos := "law.go:25", after := #[{ on := 0, ground := Ground.data }], guard := none }) rfl (fun K hK => ?stepk10) ?morek10
                  case stepk10 =>
                    go_simp
                    refine hK.out _ _ (by first | (refine MK.out _ ?_; repeat (first | (with_reducible exact bx) | (with_reducible refine Blk.drew ?_) | (with_reducible refine Blk.alloc ?_ _) | (with_reducible refine Blk.kept ?_ hk4) | (with_reducible refine Blk.grown ?_ hgr5 ne7) | (refine Blk.far ?_ hg37 _)))) (fun hHeld => ?_)
                    clear hK K
                    try simp only [Act.put, List.setIfInBounds_toArray, List.set_cons_zero, List.set_cons_succ]
                    refine wpAnyH_ready (rs := [4]) (by kernel_rfl) (by simp) ?_
                    refine AllReadyH.cons (o := { dst := some 70, op := Op.buildSlice 30 1 #[(0, Operand.tmp 69)], type := 30, pos := "law.go:25", after := #[{ on := 3, ground := Ground.data }], guard := none }) rfl (fun K hK => ?stepk11) ?morek11
                    case stepk11 =>
                      go_simp
                      refine hK.out _ _ (by first | (refine MK.out _ ?_; repeat (first | (with_reducible exact bx) | (with_reducible refine Blk.drew ?_) | (with_reducible refine Blk.alloc ?_ _) | (with_reducible refine Blk.kept ?_ hk4) | (with_reducible refine Blk.grown ?_ hgr5 ne7) | (refine Blk.far ?_ hg37 _)))) (fun hHeld => ?_)
                      clear hK K
                      try simp only [Act.put, List.setIfInBounds_toArray, List.set_cons_zero, List.set_cons_succ]
                      refine wpAnyH_ready (rs := [5]) (by kernel_rfl) (by simp) ?_
                      refine AllReadyH.cons (o := { dst := some 71, op := Op.call { callee := Callee.builtin Builtin.append, args := #[Operand.tmp 67, Operand.tmp 70], argTypes := #[30, 30] }, type := 30, pos := "law.go:25", after := #[{ on := 1, ground := Ground.data }, { on := 4, ground := Ground.data }, { on := 3, ground := Ground.chain }], guard := none }) rfl (fun K hK => ?stepk12) ?morek12
                      case stepk12 =>
                        refine step_app w (by rfl) _ _ (by rfl) appT_nd (by rfl) ((own_kept own3 k34).alloc _) ((fr3.k.trans k34).alloc _) (by rfl) (Sl.litg (by rfl) (by rfl) (by omega)) ⟨by rfl, by omega⟩ ?_
                        intro v5 w5 hown5 hk5 hgr5 hob5
                        have fr5 := ((fr3.kept k34).kept ((Kept.refl w4).alloc _)).grown hgr5 hlow'
                        have s4 : w5.cell? ⟨g3, 8, none⟩ = some (.slice KA q KC) := fr5.b3.cell 8
                        have s5 := fr5.b3.frozen
                        have s6 := fr5.b3.lt
                        obtain ⟨KA5, KC5, rfl, hU5⟩ := Sl.of_own hown5
                        refine hK.out _ _ (by first | (refine MK.out _ ?_; repeat (first | (with_reducible exact bx) | (with_reducible refine Blk.drew ?_) | (with_reducible refine Blk.alloc ?_ _) | (with_reducible refine Blk.kept ?_ hk4) | (with_reducible refine Blk.grown ?_ hgr5 ne7) | (refine Blk.far ?_ hg37 _)))) (fun hHeld => ?_)
                        clear hK K
                        try simp only [Act.put, List.setIfInBounds_toArray, List.set_cons_zero, List.set_cons_succ]
                        refine wpAnyH_take (i := 6) (oi := { dst := some 72, op := Op.fieldAddr 36 (Operand.tmp 3) 6, type := 0, pos := "law.go:25", after := #[{ on := 0, ground := Ground.phase }, { on := 1, ground := Ground.phase }, { on := 2, ground := Ground.phase }, { on := 3, ground := Ground.phase }, { on := 4, ground := Ground.phase }, { on := 5, ground := Ground.phase }], guard := none }) (v := ?vvk13) rfl (by kernel_rfl) (by kernel_rfl) (by kernel_rfl) (fun _ _ _ h => h) (Or.inl ⟨by rfl, ?hyk13⟩) (by assumption) ?restk13
                        case hyk13 => (intro wS hSw; (try dsimp only at hSw); (repeat (obtain ⟨_, hSw⟩ := hSw)); go_simp; try (with_reducible rfl))
                        try simp only [Act.put, List.setIfInBounds_toArray, List.set_cons_zero, List.set_cons_succ]
                        refine wpAnyH_ready (rs := [7]) (by kernel_rfl) (by simp) ?_
                        refine AllReadyH.cons (o := { dst := none, op := Op.store 30 (Operand.tmp 72) (Operand.tmp 71), type := 0, pos := "law.go:25", after := #[{ on := 6, ground := Ground.data }, { on := 5, ground := Ground.data }, { on := 5, ground := Ground.chain }, { on := 0, ground := Ground.phase }, { on := 1, ground := Ground.phase }, { on := 2, ground := Ground.phase }, { on := 3, ground := Ground.phase }, { on := 4, ground := Ground.phase }, { on := 5, ground := Ground.phase }], guard := none }) rfl (fun K hK => ?stepk14) ?morek14
                        case stepk14 =>
                          go_simp
                          refine hK.out _ _ (by first | (refine MK.out _ ?_; repeat (first | (with_reducible exact bx) | (with_reducible refine Blk.drew ?_) | (with_reducible refine Blk.alloc ?_ _) | (with_reducible refine Blk.kept ?_ hk4) | (with_reducible refine Blk.grown ?_ hgr5 ne7) | (refine Blk.far ?_ hg37 _)))) (fun hHeld => ?_)
                          clear hK K
                          try simp only [Act.put, List.setIfInBounds_toArray, List.set_cons_zero, List.set_cons_succ]
                          refine wpAnyH_done (by kernel_rfl) ?_ _
                          have hob6 : (Value.slice KA5 (q + 1) KC5).ownBlock = (Value.slice KA q KC).ownBlock ∨ (Value.slice KA5 (q + 1) KC5).ownBlock = some (w4.heap.size + 1) := by simpa using hob5
                          have low5 := low_push low3 (Nat.le_trans hz5 k34.size) hob6
                          have fr6 := fr5.set 8 (.slice KA5 (q + 1) KC5)
                          have own6 := own_set1 (g := g3) (i := 8) (u := .slice KA5 (q + 1) KC5) hown5 low5 (by have := fr.l.2.2.2.2.2.1; omega)
                          have hbS5 := ((hbS3.kept k34).kept ((Kept.refl w4).alloc _)).grown0 hgr5 (fun b' o' hn e => by
                            have h1 := HBO.out b' o' hn e
                            intro e'
                            have := low3 b' e'.symm
                            omega)
                          have hbS6 := hbS5.grown0 (grown_set1 w5 g3 8 (.slice KA5 (q + 1) KC5)) (fun b' o' hn e => by
                            have h1 := HBO.out b' o' hn e
                            have h2 := fr.l.2.2.2.2.2.1
                            intro e'
                            injection e' with e'
                            omega)
                          have haS5 := ((haS3.kept k34).kept ((Kept.refl w4).alloc _)).grown0 hgr5 (fun b' o' hn e => by
                            have h1 := HAO.out b' o' hn e
                            intro e'
                            have := low3 b' e'.symm
                            omega)
                          have haS6 := haS5.grown0 (grown_set1 w5 g3 8 (.slice KA5 (q + 1) KC5)) (fun b' o' hn e => by
                            have h1 := HAO.out b' o' hn e
                            have h2 := fr.l.2.2.2.2.2.1
                            intro e'
                            injection e' with e'
                            omega)
                          have HO5 := Own.push (wc := w3) (HO3.kept k34) (Nat.zero_le _) HY.out.1 (HY.out.2.2.mono (fun b hb => Or.inr hb)) hz5 lowb hgr5 hob6
                          have HO6 : Own wP (w5.setCell ⟨g3, 8, none⟩ (.slice KA5 (q + 1) KC5)) 0 (.slice KA5 (q + 1) KC5) (O ++ [Nd.mk zk zn zbA zbn zbc zbs zaA zan zac zal zt zg zkA zkn zkc zks]) := fun x hx => ⟨(HO5 x hx).1.grown (grown_set1 w5 g3 8 _) ((HO5 x hx).2.mono (fun b hb => by
                            have h2 := fr.l.2.2.2.2.2.1
                            intro e'
                            injection e' with e'
                            omega)), (HO5 x hx).2⟩
                          have hz6 : wP.heap.size ≤ w5.heap.size := by
                            have h1 := hgr5.size
                            have h2 := k34.size
                            rw [World.size_alloc] at h1
                            omega
                          go_wp2_with fail
                          go_roundw
                          case rel =>
                            refine ⟨q + 1, KA5, KC5, O ++ [Nd.mk zk zn zbA zbn zbc zbs zaA zan zac zal zt zg zkA zkn zkc zks], hlt, by go_num, ?_, low5, HO6, ?_, hbS6, haS6, by simpa using hz6, by simpa using fr6⟩
                            · rw [List.flatMap_append]
                              exact own6
                            · unfold Hid
                              rw [List.map_append, HI.out, List.map_singleton, List.take_add_one, HYT.out, HY.out.2.1]
                              rfl
                          case measure =>
                            simp [intOf]
                            omega
                        exact AllReadyH.nil
                      exact AllReadyH.nil
                    exact AllReadyH.nil
                  refine AllReadyH.cons (o := { dst := some 70, op := Op.buildSlice 30 1 #[(0, Operand.tmp 69)], type := 30, pos := "law.go:25", after := #[{ on := 3, ground := Ground.data }], guard := none }) rfl (fun K hK => ?stepk15) ?morek15
                  case stepk15 =>
                    go_simp
                    refine hK.out _ _ (by first | (refine MK.out _ ?_; repeat (first | (with_reducible exact bx) | (with_reducible refine Blk.drew ?_) | (with_reducible refine Blk.alloc ?_ _) | (with_reducible refine Blk.kept ?_ hk4) | (with_reducible refine Blk.grown ?_ hgr5 ne7) | (refine Blk.far ?_ hg37 _)))) (fun hHeld => ?_)
                    clear hK K
                    try simp only [Act.put, List.setIfInBounds_toArray, List.set_cons_zero, List.set_cons_succ]
                    refine wpAnyH_ready (rs := [1]) (by kernel_rfl) (by simp) ?_
                    refine AllReadyH.cons (o := { dst := some 67, op := Op.load 30 (Operand.tmp 66), type := 30, pos := "law.go:25", after := #[{ on := 0, ground := Ground.data }], guard := none }) rfl (fun K hK => ?stepk16) ?morek16
                    case stepk16 =>
                      go_simp
                      refine hK.out _ _ (by first | (refine MK.out _ ?_; repeat (first | (with_reducible exact bx) | (with_reducible refine Blk.drew ?_) | (with_reducible refine Blk.alloc ?_ _) | (with_reducible refine Blk.kept ?_ hk4) | (with_reducible refine Blk.grown ?_ hgr5 ne7) | (refine Blk.far ?_ hg37 _)))) (fun hHeld => ?_)
                      clear hK K
                      try simp only [Act.put, List.setIfInBounds_toArray, List.set_cons_zero, List.set_cons_succ]
                      refine wpAnyH_ready (rs := [5]) (by kernel_rfl) (by simp) ?_
                      refine AllReadyH.cons (o := { dst := some 71, op := Op.call { callee := Callee.builtin Builtin.append, args := #[Operand.tmp 67, Operand.tmp 70], argTypes := #[30, 30] }, type := 30, pos := "law.go:25", after := #[{ on := 1, ground := Ground.data }, { on := 4, ground := Ground.data }, { on := 3, ground := Ground.chain }], guard := none }) rfl (fun K hK => ?stepk17) ?morek17
                      case stepk17 =>
                        refine step_app w (by rfl) _ _ (by rfl) appT_nd (by rfl) ((own_kept own3 k34).alloc _) ((fr3.k.trans k34).alloc _) (by rfl) (Sl.litg (by rfl) (by rfl) (by omega)) ⟨by rfl, by omega⟩ ?_
                        intro v5 w5 hown5 hk5 hgr5 hob5
                        have fr5 := ((fr3.kept k34).kept ((Kept.refl w4).alloc _)).grown hgr5 hlow'
                        have s4 : w5.cell? ⟨g3, 8, none⟩ = some (.slice KA q KC) := fr5.b3.cell 8
                        have s5 := fr5.b3.frozen
                        have s6 := fr5.b3.lt
                        obtain ⟨KA5, KC5, rfl, hU5⟩ := Sl.of_own hown5
                        refine hK.out _ _ (by first | (refine MK.out _ ?_; repeat (first | (with_reducible exact bx) | (with_reducible refine Blk.drew ?_) | (with_reducible refine Blk.alloc ?_ _) | (with_reducible refine Blk.kept ?_ hk4) | (with_reducible refine Blk.grown ?_ hgr5 ne7) | (refine Blk.far ?_ hg37 _)))) (fun hHeld => ?_)
                        clear hK K
                        try simp only [Act.put, List.setIfInBounds_toArray, List.set_cons_zero, List.set_cons_succ]
                        refine wpAnyH_take (i := 6) (oi := { dst := some 72, op := Op.fieldAddr 36 (Operand.tmp 3) 6, type := 0, pos := "law.go:25", after := #[{ on := 0, ground := Ground.phase }, { on := 1, ground := Ground.phase }, { on := 2, ground := Ground.phase }, { on := 3, ground := Ground.phase }, { on := 4, ground := Ground.phase }, { on := 5, ground := Ground.phase }], guard := none }) (v := ?vvk18) rfl (by kernel_rfl) (by kernel_rfl) (by kernel_rfl) (fun _ _ _ h => h) (Or.inl ⟨by rfl, ?hyk18⟩) (by assumption) ?restk18
                        case hyk18 => (intro wS hSw; (try dsimp only at hSw); (repeat (obtain ⟨_, hSw⟩ := hSw)); go_simp; try (with_reducible rfl))
                        try simp only [Act.put, List.setIfInBounds_toArray, List.set_cons_zero, List.set_cons_succ]
                        refine wpAnyH_ready (rs := [7]) (by kernel_rfl) (by simp) ?_
                        refine AllReadyH.cons (o := { dst := none, op := Op.store 30 (Operand.tmp 72) (Operand.tmp 71), type := 0, pos := "law.go:25", after := #[{ on := 6, ground := Ground.data }, { on := 5, ground := Ground.data }, { on := 5, ground := Ground.chain }, { on := 0, ground := Ground.phase }, { on := 1, ground := Ground.phase }, { on := 2, ground := Ground.phase }, { on := 3, ground := Ground.phase }, { on := 4, ground := Ground.phase }, { on := 5, ground := Ground.phase }], guard := none }) rfl (fun K hK => ?stepk19) ?morek19
                        case stepk19 =>
                          go_simp
                          refine hK.out _ _ (by first | (refine MK.out _ ?_; repeat (first | (with_reducible exact bx) | (with_reducible refine Blk.drew ?_) | (with_reducible refine Blk.alloc ?_ _) | (with_reducible refine Blk.kept ?_ hk4) | (with_reducible refine Blk.grown ?_ hgr5 ne7) | (refine Blk.far ?_ hg37 _)))) (fun hHeld => ?_)
                          clear hK K
                          try simp only [Act.put, List.setIfInBounds_toArray, List.set_cons_zero, List.set_cons_succ]
                          refine wpAnyH_done (by kernel_rfl) ?_ _
                          have hob6 : (Value.slice KA5 (q + 1) KC5).ownBlock = (Value.slice KA q KC).ownBlock ∨ (Value.slice KA5 (q + 1) KC5).ownBlock = some (w4.heap.size + 1) := by simpa using hob5
                          have low5 := low_push low3 (Nat.le_trans hz5 k34.size) hob6
                          have fr6 := fr5.set 8 (.slice KA5 (q + 1) KC5)
                          have own6 := own_set1 (g := g3) (i := 8) (u := .slice KA5 (q + 1) KC5) hown5 low5 (by have := fr.l.2.2.2.2.2.1; omega)
                          have hbS5 := ((hbS3.kept k34).kept ((Kept.refl w4).alloc _)).grown0 hgr5 (fun b' o' hn e => by
                            have h1 := HBO.out b' o' hn e
                            intro e'
                            have := low3 b' e'.symm
                            omega)
                          have hbS6 := hbS5.grown0 (grown_set1 w5 g3 8 (.slice KA5 (q + 1) KC5)) (fun b' o' hn e => by
                            have h1 := HBO.out b' o' hn e
                            have h2 := fr.l.2.2.2.2.2.1
                            intro e'
                            injection e' with e'
                            omega)
                          have haS5 := ((haS3.kept k34).kept ((Kept.refl w4).alloc _)).grown0 hgr5 (fun b' o' hn e => by
                            have h1 := HAO.out b' o' hn e
                            intro e'
                            have := low3 b' e'.symm
                            omega)
                          have haS6 := haS5.grown0 (grown_set1 w5 g3 8 (.slice KA5 (q + 1) KC5)) (fun b' o' hn e => by
                            have h1 := HAO.out b' o' hn e
                            have h2 := fr.l.2.2.2.2.2.1
                            intro e'
                            injection e' with e'
                            omega)
                          have HO5 := Own.push (wc := w3) (HO3.kept k34) (Nat.zero_le _) HY.out.1 (HY.out.2.2.mono (fun b hb => Or.inr hb)) hz5 lowb hgr5 hob6
                          have HO6 : Own wP (w5.setCell ⟨g3, 8, none⟩ (.slice KA5 (q + 1) KC5)) 0 (.slice KA5 (q + 1) KC5) (O ++ [Nd.mk zk zn zbA zbn zbc zbs zaA zan zac zal zt zg zkA zkn zkc zks]) := fun x hx => ⟨(HO5 x hx).1.grown (grown_set1 w5 g3 8 _) ((HO5 x hx).2.mono (fun b hb => by
                            have h2 := fr.l.2.2.2.2.2.1
                            intro e'
                            injection e' with e'
                            omega)), (HO5 x hx).2⟩
                          have hz6 : wP.heap.size ≤ w5.heap.size := by
                            have h1 := hgr5.size
                            have h2 := k34.size
                            rw [World.size_alloc] at h1
                            omega
                          go_wp2_with fail
                          go_roundw
                          case rel =>
                            refine ⟨q + 1, KA5, KC5, O ++ [Nd.mk zk zn zbA zbn zbc zbs zaA zan zac zal zt zg zkA zkn zkc zks], hlt, by go_num, ?_, low5, HO6, ?_, hbS6, haS6, by simpa using hz6, by simpa using fr6⟩
                            · rw [List.flatMap_append]
                              exact own6
                            · unfold Hid
                              rw [List.map_append, HI.out, List.map_singleton, List.take_add_one, HYT.out, HY.out.2.1]
                              rfl
                          case measure =>
                            simp [intOf]
                            omega
                        exact AllReadyH.nil
                      exact AllReadyH.nil
                    exact AllReadyH.nil
                  exact AllReadyH.nil
                exact AllReadyH.nil
              · obtain rfl : q = kn := by omega
                have hkS := sl_own hown
                have fc1 := fr.b3.cell
                have z2 := blk_znd fr.b2
                obtain ⟨z0, z1, z2, z3, z4, z5, z6, z7, z8, zf, zl⟩ := z2
                have c0' := fc1 0
                have c1' := fc1 1
                have c2' := fc1 2
                have c3' := fc1 3
                have c4' := fc1 4
                have c5' := fc1 5
                have c6' := fc1 6
                have c7' := fc1 7
                have c8' := fc1 8
                go_wp2_with fail
                obtain ⟨l1, l2, l3, l4, l5, l6, l7, l8⟩ := fr.l
                have hzz := fr.z
                have bz := blk_setB9 fr.b2 (.int .i64 k) (.string n.u) (.string n.l) (.string n.p) (.slice VA j VC) (.slice UA i UC) (.string t) (.string g) (.slice KA q KC)
                have kz := kept_setB9 fr.k l2 (.int .i64 k) (.string n.u) (.string n.l) (.string n.p) (.slice VA j VC) (.slice UA i UC) (.string t) (.string g) (.slice KA q KC)
                have g9 := grown_setB9 wr g2 (.int .i64 k) (.string n.u) (.string n.l) (.string n.p) (.slice VA j VC) (.slice UA i UC) (.string t) (.string g) (.slice KA q KC)
                change bodyPost _ _ _ _ _ (setB9 wr g2 (.int .i64 k) (.string n.u) (.string n.l) (.string n.p) (.slice VA j VC) (.slice UA i UC) (.string t) (.string g) (.slice KA q KC))
                generalize setB9 wr g2 (.int .i64 k) (.string n.u) (.string n.l) (.string n.p) (.slice VA j VC) (.slice UA i UC) (.string t) (.string g) (.slice KA q KC) = W at bz kz g9 ⊢
                have cz := bz.cell
                have d0 := cz 0
                have d1 := cz 1
                have d2 := cz 2
                have d3 := cz 3
                have d4 := cz 4
                have d5 := cz 5
                have d6 := cz 6
                have d7 := cz 7
                have d8 := cz 8
                have hO2 : ∀ x ∈ O, x.ok W := fun x hx => (HO x hx).1.grown g9 ((HO x hx).2.mono fun b hb => by
                  intro e
                  injection e with e
                  omega)
                have hkb : ∀ b o, 0 < q → KA = some ⟨b, o, none⟩ → wP.heap.size ≤ b := fun b o hn e => low3 b (by rw [e]; rfl)
                have e1 := hbS.grown0 g9 (fun b o hn e => by
                  have := HBO.out b o hn e
                  intro e'
                  injection e' with e'
                  omega)
                have e2 := haS.grown0 g9 (fun b o hn e => by
                  have := HAO.out b o hn e
                  intro e'
                  injection e' with e'
                  omega)
                have e3 := hkS.grown0 g9 (fun b o hn e => by
                  have := hkb b o hn e
                  intro e'
                  injection e' with e'
                  omega)
                refine bodyPost_ret (v := .agg #[.int .i64 k, .string n.u, .string n.l, .string n.p, .slice VA j VC, .slice UA i UC, .string t, .string g, .slice KA q KC]) (by simp [results, Try.results9, go_sem, d0, d1, d2, d3, d4, d5, d6, d7, d8]) rfl
                  ⟨Nd.mk k n VA j VC bs UA i UC al t g KA q KC O, rfl, .mk e1 e2 e3 hO2, ?_, .mk ?_ ?_ ?_ ?_, kz⟩
                · rw [Nd.tr_mk, Nd.tr_mk, HI.out, List.take_of_length_le (by rw [List.length_map, HL.out]; exact Nat.le_refl _)]
                · intro b o hn e
                  have := HBO.out b o hn e
                  omega
                · intro b o hn e
                  have := HAO.out b o hn e
                  omega
                · intro b o hn e
                  have := hkb b o hn e
                  omega
                · intro x hx
                  exact (HO x hx).2.mono fun b hb => by omega
end Go.Proofs.Ytnlncamiaddhfaa
