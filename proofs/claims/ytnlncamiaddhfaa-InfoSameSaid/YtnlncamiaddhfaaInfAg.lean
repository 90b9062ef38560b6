/- The law InfoSame, walked. Printed by gen_infag.py. -/
import Derived.Test.YtnlncamiaddhfaaInfAd
import Derived.Test.YtnlncamiaddhfaaInfAf
import Derived.Test.YtnlncamiaddhfaaInfY
import Derived.Test.YtnlncamiaddhfaaInfH
import Derived.Test.YtnlncamiaddhfaaInfU
namespace Go.Proofs.Ytnlncamiaddhfaa
open Go.RowKit
attribute [local go_sem ↓] Go.wp_at_zero Go.wp_at_succ

theorem out_ne_of_ge {x : Nd} {B g : Nat} (h : x.out (fun b => B ≤ b)) (hg : g < B) : x.out (fun b => b ≠ g) := h.mono (fun b hb e => by
  have hb' : B ≤ b := hb
  omega)
theorem out_ne_of_lt {x : Nd} {w : World} {g : Nat} (h : x.ok w) (hg : w.heap.size = g) : x.out (fun b => b ≠ g) := h.lt.mono (fun b hb e => by
  have hb' : b < w.heap.size := hb
  omega)
theorem ne_of_lt5 {g5 g6 n : Nat} (h : g6 < n) (hg : n = g5) : g5 ≠ g6 := by omega
theorem ne_of_lt6 {g5 g6 n : Nat} (h : g5 < n) (hg : n = g6) : g5 ≠ g6 := by omega
def Nd.arr : Nd → Array Value
  | .mk k n bA bn bc _ aA an ac _ t g kA kn kc _ => ndc k n bA bn bc aA an ac t g kA kn kc
theorem Nd.arr_mk (k : Int) (n : Nm) (bA : Option Addr) (bn bc : Nat) (bs : List Bd) (aA : Option Addr) (an ac : Nat) (al : List Att) (t g : ByteArray) (kA : Option Addr) (kn kc : Nat) (ks : List Nd) :
    (Nd.mk k n bA bn bc bs aA an ac al t g kA kn kc ks).arr = ndc k n bA bn bc aA an ac t g kA kn kc := rfl
set_option maxRecDepth 100000 in
set_option maxHeartbeats 8000000 in
theorem infoSame_any (x y : Nd) (w : World) (hok : x.ok w) (hok2 : y.ok w) :
    Calls Try.prog 6 #[x.val, y.val] w fun e w' => e = .returned (.bool true) ∧ Kept w w' := by
  have HSM := Lib.hid (show _ ∧ _ from ⟨cut_small 4 x.tr, cut_small 4 y.tr⟩)
  have HC := Lib.hid (fun w' (kk : Kept w w') => cut_any x 4 w' w.heap.size (by omega) (hok.kept kk) hok.lt kk.size)
  have HD := Lib.hid (fun w' (kk : Kept w w') => cut_any y 4 w' w.heap.size (by omega) (hok2.kept kk) hok2.lt kk.size)
  obtain ⟨X, hX⟩ : ∃ X, cutT 4 x.tr = X := ⟨_, rfl⟩
  obtain ⟨Y, hY⟩ : ∃ Y, cutT 4 y.tr = Y := ⟨_, rfl⟩
  rw [hX, hY] at HSM
  have HX := Lib.hid hX
  have HY := Lib.hid hY
  clear hok hok2 hX hY
  obtain ⟨k, n, bA, bn, bc, bs, aA, an, ac, al, t, g, kA, kn, kc, ks⟩ := x
  obtain ⟨k', n', bA', bn', bc', bs', aA', an', ac', al', t', g', kA', kn', kc', ks'⟩ := y
  have HC2 : Hid (∀ w', Kept w w' → Calls Try.prog 7 #[.agg #[.int .i64 k, .string n.u, .string n.l, .string n.p, .slice bA bn bc, .slice aA an ac, .string t, .string g, .slice kA kn kc], .int .i64 4] w' fun e w'' =>
      ∃ zk zn zbA zbn zbc zbs zaA zan zac zal zt zg zkA zkn zkc zks, e = .returned (.agg #[.int .i64 zk, .string (Nm.u zn), .string (Nm.l zn), .string (Nm.p zn), .slice zbA zbn zbc, .slice zaA zan zac, .string zt, .string zg, .slice zkA zkn zkc]) ∧
        Hid ((Nd.mk zk zn zbA zbn zbc zbs zaA zan zac zal zt zg zkA zkn zkc zks).ok w'' ∧ (Nd.mk zk zn zbA zbn zbc zbs zaA zan zac zal zt zg zkA zkn zkc zks).tr = X ∧ (Nd.mk zk zn zbA zbn zbc zbs zaA zan zac zal zt zg zkA zkn zkc zks).out (fun b => b < w.heap.size ∨ w'.heap.size ≤ b)) ∧ Kept w' w'') := by
    intro w' kk
    refine (HC.out w' kk).mono ?_
    rintro e w2 ⟨⟨zk, zn, zbA, zbn, zbc, zbs, zaA, zan, zac, zal, zt, zg, zkA, zkn, zkc, zks⟩, rfl, h1, h2, h4, h3⟩
    exact ⟨zk, zn, zbA, zbn, zbc, zbs, zaA, zan, zac, zal, zt, zg, zkA, zkn, zkc, zks, rfl, ⟨h1, h2.trans HX.out, h4⟩, h3⟩
  have HD2 : Hid (∀ w', Kept w w' → Calls Try.prog 7 #[.agg #[.int .i64 k', .string n'.u, .string n'.l, .string n'.p, .slice bA' bn' bc', .slice aA' an' ac', .string t', .string g', .slice kA' kn' kc'], .int .i64 4] w' fun e w'' =>
      ∃ uk un ubA ubn ubc ubs uaA uan uac ual ut ug ukA ukn ukc uks, e = .returned (.agg #[.int .i64 uk, .string (Nm.u un), .string (Nm.l un), .string (Nm.p un), .slice ubA ubn ubc, .slice uaA uan uac, .string ut, .string ug, .slice ukA ukn ukc]) ∧
        Hid ((Nd.mk uk un ubA ubn ubc ubs uaA uan uac ual ut ug ukA ukn ukc uks).ok w'' ∧ (Nd.mk uk un ubA ubn ubc ubs uaA uan uac ual ut ug ukA ukn ukc uks).tr = Y ∧ (Nd.mk uk un ubA ubn ubc ubs uaA uan uac ual ut ug ukA ukn ukc uks).out (fun b => b < w.heap.size ∨ w'.heap.size ≤ b)) ∧ Kept w' w'') := by
    intro w' kk
    refine (HD.out w' kk).mono ?_
    rintro e w2 ⟨⟨uk, un, ubA, ubn, ubc, ubs, uaA, uan, uac, ual, ut, ug, ukA, ukn, ukc, uks⟩, rfl, h1, h2, h4, h3⟩
    exact ⟨uk, un, ubA, ubn, ubc, ubs, uaA, uan, uac, ual, ut, ug, ukA, ukn, ukc, uks, rfl, ⟨h1, h2.trans HY.out, h4⟩, h3⟩
  clear HC HD
  show Calls Try.prog 6 #[.agg #[.int .i64 k, .string n.u, .string n.l, .string n.p, .slice bA bn bc, .slice aA an ac, .string t, .string g, .slice kA kn kc], .agg #[.int .i64 k', .string n'.u, .string n'.l, .string n'.p, .slice bA' bn' bc', .slice aA' an' ac', .string t', .string g', .slice kA' kn' kc']] w _
  have k1 := ((Kept.refl w).alloc (.cells (ndc k n bA bn bc aA an ac t g kA kn kc) 28)).alloc (.cells (ndc k' n' bA' bn' bc' aA' an' ac' t' g' kA' kn' kc') 28)
  have b1 := (Blk.new w (ndc k n bA bn bc aA an ac t g kA kn kc) 28).alloc (.cells (ndc k' n' bA' bn' bc' aA' an' ac' t' g' kA' kn' kc') 28)
  have z1 := Blk.new (w.alloc (.cells (ndc k n bA bn bc aA an ac t g kA kn kc) 28)) (ndc k' n' bA' bn' bc' aA' an' ac' t' g' kA' kn' kc') 28
  go_enter Try.func6, Try.ntmps6
  go_upto_region 1 with fail
  generalize (w.alloc (.cells (ndc k n bA bn bc aA an ac t g kA kn kc) 28)).alloc (.cells (ndc k' n' bA' bn' bc' aA' an' ac' t' g' kA' kn' kc') 28) = w1 at k1 b1 z1 ⊢
  have b2 : Blk w1 (w.heap.size + 1) (ndc k' n' bA' bn' bc' aA' an' ac' t' g' kA' kn' kc') 28 := by simpa using z1
  clear z1
  obtain ⟨g1, hg1⟩ : ∃ g1, w.heap.size = g1 := ⟨_, rfl⟩
  obtain ⟨g2, hg2⟩ : ∃ g2, w.heap.size + 1 = g2 := ⟨_, rfl⟩
  have hgg : g1 < g2 := by omega
  have hne : g1 ≠ g2 := by omega
  rw [hg2] at b2 ⊢
  rw [hg1] at b1 ⊢
  go_cut [2] (fun s wx => s = .pointer (some ⟨g1, 0, none⟩) ∧ ∃ z u : Nd, Blk wx g1 z.arr 28 ∧ Blk wx g2 u.arr 28 ∧ z.ok wx ∧ z.tr = X ∧ u.ok wx ∧ u.tr = Y ∧ Kept w wx)
  case first =>
    have s0 : w1.cell? ⟨g1, 0, none⟩ = some (.int .i64 k) := b1.cell 0
    have s1 : w1.cell? ⟨g1, 1, none⟩ = some (.string n.u) := b1.cell 1
    have s2 : w1.cell? ⟨g1, 2, none⟩ = some (.string n.l) := b1.cell 2
    have s3 : w1.cell? ⟨g1, 3, none⟩ = some (.string n.p) := b1.cell 3
    have s4 : w1.cell? ⟨g1, 4, none⟩ = some (.slice bA bn bc) := b1.cell 4
    have s5 : w1.cell? ⟨g1, 5, none⟩ = some (.slice aA an ac) := b1.cell 5
    have s6 : w1.cell? ⟨g1, 6, none⟩ = some (.string t) := b1.cell 6
    have s7 : w1.cell? ⟨g1, 7, none⟩ = some (.string g) := b1.cell 7
    have s8 : w1.cell? ⟨g1, 8, none⟩ = some (.slice kA kn kc) := b1.cell 8
    have r0 : w1.cell? ⟨g2, 0, none⟩ = some (.int .i64 k') := b2.cell 0
    have r1 : w1.cell? ⟨g2, 1, none⟩ = some (.string n'.u) := b2.cell 1
    have r2 : w1.cell? ⟨g2, 2, none⟩ = some (.string n'.l) := b2.cell 2
    have r3 : w1.cell? ⟨g2, 3, none⟩ = some (.string n'.p) := b2.cell 3
    have r4 : w1.cell? ⟨g2, 4, none⟩ = some (.slice bA' bn' bc') := b2.cell 4
    have r5 : w1.cell? ⟨g2, 5, none⟩ = some (.slice aA' an' ac') := b2.cell 5
    have r6 : w1.cell? ⟨g2, 6, none⟩ = some (.string t') := b2.cell 6
    have r7 : w1.cell? ⟨g2, 7, none⟩ = some (.string g') := b2.cell 7
    have r8 : w1.cell? ⟨g2, 8, none⟩ = some (.slice kA' kn' kc') := b2.cell 8
    have gl2 := b2.lt
    refine wp_region_held_drew (S := fun _ => True) (by kernel_rfl) trivial (fun hHeld => ?_)
    refine wpAnyH_ready (rs := [0, 2]) (by kernel_rfl) (by simp) ?_
    refine AllReadyH.cons (o := { dst := some 7, op := Op.load 28 (Operand.tmp 2), type := 28, pos := "law.go:81", after := #[], guard := none }) rfl (fun K hK => ?stepag11) ?moreag11
    case stepag11 =>
      go_simp
      refine hK.out _ _ (by trivial) (fun hHeld => ?_)
      clear hK K
      try simp only [Act.put, List.setIfInBounds_toArray, List.set_cons_zero, List.set_cons_succ]
      refine wpAnyH_ready (rs := [1, 2]) (by kernel_rfl) (by simp) ?_
      refine AllReadyH.cons (o := { dst := some 8, op := Op.call { callee := Callee.value (Operand.func 7), args := #[Operand.tmp 7, Operand.const (Value.int IntKind.i64 4)], argTypes := #[28, 3] }, type := 28, pos := "law.go:81", after := #[{ on := 0, ground := Ground.data }], guard := none }) rfl (fun K hK => ?stepag12) ?moreag12
      case stepag12 =>
        go_simp
        go_at_call 7
        refine (HC2.out _ k1.drew).mono ?_
        rintro e wa ⟨zk, zn, zbA, zbn, zbc, zbs, zaA, zan, zac, zal, zt, zg, zkA, zkn, zkc, zks, rfl, hz, ka⟩
        have KA : Kept w wa := Kept.trans k1.drew ka
        have c1a := (b1.drew).kept ka
        have c2a := (b2.drew).kept ka
        have sza := ka.size
        have e0 : wa.cell? ⟨g2, 0, none⟩ = some (.int .i64 k') := c2a.cell 0
        have e1 : wa.cell? ⟨g2, 1, none⟩ = some (.string n'.u) := c2a.cell 1
        have e2 : wa.cell? ⟨g2, 2, none⟩ = some (.string n'.l) := c2a.cell 2
        have e3 : wa.cell? ⟨g2, 3, none⟩ = some (.string n'.p) := c2a.cell 3
        have e4 : wa.cell? ⟨g2, 4, none⟩ = some (.slice bA' bn' bc') := c2a.cell 4
        have e5 : wa.cell? ⟨g2, 5, none⟩ = some (.slice aA' an' ac') := c2a.cell 5
        have e6 : wa.cell? ⟨g2, 6, none⟩ = some (.string t') := c2a.cell 6
        have e7 : wa.cell? ⟨g2, 7, none⟩ = some (.string g') := c2a.cell 7
        have e8 : wa.cell? ⟨g2, 8, none⟩ = some (.slice kA' kn' kc') := c2a.cell 8
        go_wp2_with fail
        refine hK.out _ _ (by trivial) (fun hHeld => ?_)
        clear hK K
        try simp only [Act.put, List.setIfInBounds_toArray, List.set_cons_zero, List.set_cons_succ]
        refine wpAnyH_ready (rs := [2]) (by kernel_rfl) (by simp) ?_
        refine AllReadyH.cons (o := { dst := some 9, op := Op.load 28 (Operand.tmp 3), type := 28, pos := "law.go:81", after := #[], guard := none }) rfl (fun K hK => ?stepag13) ?moreag13
        case stepag13 =>
          go_simp
          refine hK.out _ _ (by trivial) (fun hHeld => ?_)
          clear hK K
          try simp only [Act.put, List.setIfInBounds_toArray, List.set_cons_zero, List.set_cons_succ]
          refine wpAnyH_ready (rs := [3]) (by kernel_rfl) (by simp) ?_
          refine AllReadyH.cons (o := { dst := some 10, op := Op.call { callee := Callee.value (Operand.func 7), args := #[Operand.tmp 9, Operand.const (Value.int IntKind.i64 4)], argTypes := #[28, 3] }, type := 28, pos := "law.go:81", after := #[{ on := 2, ground := Ground.data }, { on := 1, ground := Ground.chain }], guard := none }) rfl (fun K hK => ?stepag14) ?moreag14
          case stepag14 =>
            go_simp
            go_at_call 7
            refine (HD2.out _ KA).mono ?_
            rintro e wb ⟨uk, un, ubA, ubn, ubc, ubs, uaA, uan, uac, ual, ut, ug, ukA, ukn, ukc, uks, rfl, hu, kb⟩
            have KB : Kept w wb := KA.trans kb
            have c1b := c1a.kept kb
            have c2b := c2a.kept kb
            have f0 : wb.cell? ⟨g1, 0, none⟩ = some (.int .i64 k) := c1b.cell 0
            have f1 : wb.cell? ⟨g1, 1, none⟩ = some (.string n.u) := c1b.cell 1
            have f2 : wb.cell? ⟨g1, 2, none⟩ = some (.string n.l) := c1b.cell 2
            have f3 : wb.cell? ⟨g1, 3, none⟩ = some (.string n.p) := c1b.cell 3
            have f4 : wb.cell? ⟨g1, 4, none⟩ = some (.slice bA bn bc) := c1b.cell 4
            have f5 : wb.cell? ⟨g1, 5, none⟩ = some (.slice aA an ac) := c1b.cell 5
            have f6 : wb.cell? ⟨g1, 6, none⟩ = some (.string t) := c1b.cell 6
            have f7 : wb.cell? ⟨g1, 7, none⟩ = some (.string g) := c1b.cell 7
            have f8 : wb.cell? ⟨g1, 8, none⟩ = some (.slice kA kn kc) := c1b.cell 8
            have cf := c1b.frozen
            have cl := c1b.lt
            have szb := kb.size
            go_wp2_with fail
            refine hK.out _ _ (by trivial) (fun hHeld => ?_)
            clear hK K
            try simp only [Act.put, List.setIfInBounds_toArray, List.set_cons_zero, List.set_cons_succ]
            refine wpAnyH_ready (rs := [4]) (by kernel_rfl) (by simp) ?_
            refine AllReadyH.cons (o := { dst := none, op := Op.store 28 (Operand.tmp 2) (Operand.tmp 8), type := 0, pos := "law.go:81", after := #[{ on := 1, ground := Ground.data }, { on := 3, ground := Ground.chain }, { on := 0, ground := Ground.phase }, { on := 1, ground := Ground.phase }, { on := 2, ground := Ground.textOnly Departure.lateStores }, { on := 3, ground := Ground.textOnly Departure.lateStoresUnsure }], guard := none }) rfl (fun K hK => ?stepag15) ?moreag15
            case stepag15 =>
              go_simp
              have c1c := blk_setB9 c1b (.int .i64 zk) (.string zn.u) (.string zn.l) (.string zn.p) (.slice zbA zbn zbc) (.slice zaA zan zac) (.string zt) (.string zg) (.slice zkA zkn zkc)
              have gc := grown_setB9 wb g1 (.int .i64 zk) (.string zn.u) (.string zn.l) (.string zn.p) (.slice zbA zbn zbc) (.slice zaA zan zac) (.string zt) (.string zg) (.slice zkA zkn zkc)
              have c2c := c2b.grown gc (by intro e'; injection e' with e'; omega)
              have KC := kept_setB9 KB (Nat.le_of_eq hg1) (.int .i64 zk) (.string zn.u) (.string zn.l) (.string zn.p) (.slice zbA zbn zbc) (.slice zaA zan zac) (.string zt) (.string zg) (.slice zkA zkn zkc)
              have zc := (hz.out.1.kept kb).grown gc (hz.out.2.2.mono (fun b hb => by
                intro e'
                injection e' with e'
                have hb' : b < w.heap.size ∨ w1.heap.size ≤ b := hb
                omega))
              have uc := hu.out.1.grown gc (hu.out.2.2.mono (fun b hb => by
                intro e'
                injection e' with e'
                have hb' : b < w.heap.size ∨ wa.heap.size ≤ b := hb
                have sza' : w1.heap.size ≤ wa.heap.size := sza
                omega))
              change K _ (setB9 wb g1 (.int .i64 zk) (.string zn.u) (.string zn.l) (.string zn.p) (.slice zbA zbn zbc) (.slice zaA zan zac) (.string zt) (.string zg) (.slice zkA zkn zkc))
              generalize (setB9 wb g1 (.int .i64 zk) (.string zn.u) (.string zn.l) (.string zn.p) (.slice zbA zbn zbc) (.slice zaA zan zac) (.string zt) (.string zg) (.slice zkA zkn zkc)) = w4 at c1c c2c KC zc uc ⊢
              have d := c2c.cell
              have df := c2c.frozen
              have dl := c2c.lt
              clear f0 f1 f2 f3 f4 f5 f6 f7 f8 cf cl
              have d0 : w4.cell? ⟨g2, 0, none⟩ = some (.int .i64 k') := d 0
              have d1 : w4.cell? ⟨g2, 1, none⟩ = some (.string n'.u) := d 1
              have d2 : w4.cell? ⟨g2, 2, none⟩ = some (.string n'.l) := d 2
              have d3 : w4.cell? ⟨g2, 3, none⟩ = some (.string n'.p) := d 3
              have d4 : w4.cell? ⟨g2, 4, none⟩ = some (.slice bA' bn' bc') := d 4
              have d5 : w4.cell? ⟨g2, 5, none⟩ = some (.slice aA' an' ac') := d 5
              have d6 : w4.cell? ⟨g2, 6, none⟩ = some (.string t') := d 6
              have d7 : w4.cell? ⟨g2, 7, none⟩ = some (.string g') := d 7
              have d8 : w4.cell? ⟨g2, 8, none⟩ = some (.slice kA' kn' kc') := d 8
              clear d
              refine hK.out _ _ (by trivial) (fun hHeld => ?_)
              clear hK K
              try simp only [Act.put, List.setIfInBounds_toArray, List.set_cons_zero, List.set_cons_succ]
              refine wpAnyH_ready (rs := [5]) (by kernel_rfl) (by simp) ?_
              refine AllReadyH.cons (o := { dst := none, op := Op.store 28 (Operand.tmp 3) (Operand.tmp 10), type := 0, pos := "law.go:81", after := #[{ on := 3, ground := Ground.data }, { on := 4, ground := Ground.chain }, { on := 0, ground := Ground.phase }, { on := 1, ground := Ground.phase }, { on := 2, ground := Ground.phase }, { on := 3, ground := Ground.phase }, { on := 4, ground := Ground.phase }], guard := none }) rfl (fun K hK => ?stepag16) ?moreag16
              case stepag16 =>
                go_simp
                have c2d := blk_setB9 c2c (.int .i64 uk) (.string un.u) (.string un.l) (.string un.p) (.slice ubA ubn ubc) (.slice uaA uan uac) (.string ut) (.string ug) (.slice ukA ukn ukc)
                have gd := grown_setB9 w4 g2 (.int .i64 uk) (.string un.u) (.string un.l) (.string un.p) (.slice ubA ubn ubc) (.slice uaA uan uac) (.string ut) (.string ug) (.slice ukA ukn ukc)
                have c1d := c1c.grown gd (by intro e'; injection e' with e'; omega)
                have KD := kept_setB9 KC (show w.heap.size ≤ g2 by rw [← hg2]; exact Nat.le_succ _) (.int .i64 uk) (.string un.u) (.string un.l) (.string un.p) (.slice ubA ubn ubc) (.slice uaA uan uac) (.string ut) (.string ug) (.slice ukA ukn ukc)
                have zd := zc.grown gd (hz.out.2.2.mono (fun b hb => by
                  intro e'
                  injection e' with e'
                  have hb' : b < w.heap.size ∨ w1.heap.size ≤ b := hb
                  omega))
                have ud := uc.grown gd (hu.out.2.2.mono (fun b hb => by
                  intro e'
                  injection e' with e'
                  have hb' : b < w.heap.size ∨ wa.heap.size ≤ b := hb
                  have sza' : w1.heap.size ≤ wa.heap.size := sza
                  omega))
                change K _ (setB9 w4 g2 (.int .i64 uk) (.string un.u) (.string un.l) (.string un.p) (.slice ubA ubn ubc) (.slice uaA uan uac) (.string ut) (.string ug) (.slice ukA ukn ukc))
                generalize (setB9 w4 g2 (.int .i64 uk) (.string un.u) (.string un.l) (.string un.p) (.slice ubA ubn ubc) (.slice uaA uan uac) (.string ut) (.string ug) (.slice ukA ukn ukc)) = w5 at c2d c1d KD zd ud ⊢
                clear d0 d1 d2 d3 d4 d5 d6 d7 d8 df dl
                refine hK.out _ _ (by trivial) (fun hHeld => ?_)
                clear hK K
                try simp only [Act.put, List.setIfInBounds_toArray, List.set_cons_zero, List.set_cons_succ]
                refine wpAnyH_done (by kernel_rfl) ?_ _
                go_wp2_with fail
                go_meet
                exact ⟨rfl, (Nd.mk zk zn zbA zbn zbc zbs zaA zan zac zal zt zg zkA zkn zkc zks), (Nd.mk uk un ubA ubn ubc ubs uaA uan uac ual ut ug ukA ukn ukc uks), by rw [Nd.arr_mk]; exact c1d, by rw [Nd.arr_mk]; exact c2d, zd, hz.out.2.1, ud, hu.out.2.1, KD⟩
              exact AllReadyH.nil
            exact AllReadyH.nil
          exact AllReadyH.nil
        exact AllReadyH.nil
      refine AllReadyH.cons (o := { dst := some 9, op := Op.load 28 (Operand.tmp 3), type := 28, pos := "law.go:81", after := #[], guard := none }) rfl (fun K hK => ?stepag17) ?moreag17
      case stepag17 =>
        go_simp
        refine hK.out _ _ (by trivial) (fun hHeld => ?_)
        clear hK K
        try simp only [Act.put, List.setIfInBounds_toArray, List.set_cons_zero, List.set_cons_succ]
        refine wpAnyH_ready (rs := [1]) (by kernel_rfl) (by simp) ?_
        refine AllReadyH.cons (o := { dst := some 8, op := Op.call { callee := Callee.value (Operand.func 7), args := #[Operand.tmp 7, Operand.const (Value.int IntKind.i64 4)], argTypes := #[28, 3] }, type := 28, pos := "law.go:81", after := #[{ on := 0, ground := Ground.data }], guard := none }) rfl (fun K hK => ?stepag18) ?moreag18
        case stepag18 =>
          go_simp
          go_at_call 7
          refine (HC2.out _ k1.drew).mono ?_
          rintro e wa ⟨zk, zn, zbA, zbn, zbc, zbs, zaA, zan, zac, zal, zt, zg, zkA, zkn, zkc, zks, rfl, hz, ka⟩
          have KA : Kept w wa := Kept.trans k1.drew ka
          have c1a := (b1.drew).kept ka
          have c2a := (b2.drew).kept ka
          have sza := ka.size
          have e0 : wa.cell? ⟨g2, 0, none⟩ = some (.int .i64 k') := c2a.cell 0
          have e1 : wa.cell? ⟨g2, 1, none⟩ = some (.string n'.u) := c2a.cell 1
          have e2 : wa.cell? ⟨g2, 2, none⟩ = some (.string n'.l) := c2a.cell 2
          have e3 : wa.cell? ⟨g2, 3, none⟩ = some (.string n'.p) := c2a.cell 3
          have e4 : wa.cell? ⟨g2, 4, none⟩ = some (.slice bA' bn' bc') := c2a.cell 4
          have e5 : wa.cell? ⟨g2, 5, none⟩ = some (.slice aA' an' ac') := c2a.cell 5
          have e6 : wa.cell? ⟨g2, 6, none⟩ = some (.string t') := c2a.cell 6
          have e7 : wa.cell? ⟨g2, 7, none⟩ = some (.string g') := c2a.cell 7
          have e8 : wa.cell? ⟨g2, 8, none⟩ = some (.slice kA' kn' kc') := c2a.cell 8
          go_wp2_with fail
          refine hK.out _ _ (by trivial) (fun hHeld => ?_)
          clear hK K
          try simp only [Act.put, List.setIfInBounds_toArray, List.set_cons_zero, List.set_cons_succ]
          refine wpAnyH_ready (rs := [3]) (by kernel_rfl) (by simp) ?_
          refine AllReadyH.cons (o := { dst := some 10, op := Op.call { callee := Callee.value (Operand.func 7), args := #[Operand.tmp 9, Operand.const (Value.int IntKind.i64 4)], argTypes := #[28, 3] }, type := 28, pos := "law.go:81", after := #[{ on := 2, ground := Ground.data }, { on := 1, ground := Ground.chain }], guard := none }) rfl (fun K hK => ?stepag19) ?moreag19
          case stepag19 =>
            go_simp
            go_at_call 7
            refine (HD2.out _ KA).mono ?_
            rintro e wb ⟨uk, un, ubA, ubn, ubc, ubs, uaA, uan, uac, ual, ut, ug, ukA, ukn, ukc, uks, rfl, hu, kb⟩
            have KB : Kept w wb := KA.trans kb
            have c1b := c1a.kept kb
            have c2b := c2a.kept kb
            have f0 : wb.cell? ⟨g1, 0, none⟩ = some (.int .i64 k) := c1b.cell 0
            have f1 : wb.cell? ⟨g1, 1, none⟩ = some (.string n.u) := c1b.cell 1
            have f2 : wb.cell? ⟨g1, 2, none⟩ = some (.string n.l) := c1b.cell 2
            have f3 : wb.cell? ⟨g1, 3, none⟩ = some (.string n.p) := c1b.cell 3
            have f4 : wb.cell? ⟨g1, 4, none⟩ = some (.slice bA bn bc) := c1b.cell 4
            have f5 : wb.cell? ⟨g1, 5, none⟩ = some (.slice aA an ac) := c1b.cell 5
            have f6 : wb.cell? ⟨g1, 6, none⟩ = some (.string t) := c1b.cell 6
            have f7 : wb.cell? ⟨g1, 7, none⟩ = some (.string g) := c1b.cell 7
            have f8 : wb.cell? ⟨g1, 8, none⟩ = some (.slice kA kn kc) := c1b.cell 8
            have cf := c1b.frozen
            have cl := c1b.lt
            have szb := kb.size
            go_wp2_with fail
            refine hK.out _ _ (by trivial) (fun hHeld => ?_)
            clear hK K
            try simp only [Act.put, List.setIfInBounds_toArray, List.set_cons_zero, List.set_cons_succ]
            refine wpAnyH_ready (rs := [4]) (by kernel_rfl) (by simp) ?_
            refine AllReadyH.cons (o := { dst := none, op := Op.store 28 (Operand.tmp 2) (Operand.tmp 8), type := 0, pos := "law.go:81", after := #[{ on := 1, ground := Ground.data }, { on := 3, ground := Ground.chain }, { on := 0, ground := Ground.phase }, { on := 1, ground := Ground.phase }, { on := 2, ground := Ground.textOnly Departure.lateStores }, { on := 3, ground := Ground.textOnly Departure.lateStoresUnsure }], guard := none }) rfl (fun K hK => ?stepag110) ?moreag110
            case stepag110 =>
              go_simp
              have c1c := blk_setB9 c1b (.int .i64 zk) (.string zn.u) (.string zn.l) (.string zn.p) (.slice zbA zbn zbc) (.slice zaA zan zac) (.string zt) (.string zg) (.slice zkA zkn zkc)
              have gc := grown_setB9 wb g1 (.int .i64 zk) (.string zn.u) (.string zn.l) (.string zn.p) (.slice zbA zbn zbc) (.slice zaA zan zac) (.string zt) (.string zg) (.slice zkA zkn zkc)
              have c2c := c2b.grown gc (by intro e'; injection e' with e'; omega)
              have KC := kept_setB9 KB (Nat.le_of_eq hg1) (.int .i64 zk) (.string zn.u) (.string zn.l) (.string zn.p) (.slice zbA zbn zbc) (.slice zaA zan zac) (.string zt) (.string zg) (.slice zkA zkn zkc)
              have zc := (hz.out.1.kept kb).grown gc (hz.out.2.2.mono (fun b hb => by
                intro e'
                injection e' with e'
                have hb' : b < w.heap.size ∨ w1.heap.size ≤ b := hb
                omega))
              have uc := hu.out.1.grown gc (hu.out.2.2.mono (fun b hb => by
                intro e'
                injection e' with e'
                have hb' : b < w.heap.size ∨ wa.heap.size ≤ b := hb
                have sza' : w1.heap.size ≤ wa.heap.size := sza
                omega))
              change K _ (setB9 wb g1 (.int .i64 zk) (.string zn.u) (.string zn.l) (.string zn.p) (.slice zbA zbn zbc) (.slice zaA zan zac) (.string zt) (.string zg) (.slice zkA zkn zkc))
              generalize (setB9 wb g1 (.int .i64 zk) (.string zn.u) (.string zn.l) (.string zn.p) (.slice zbA zbn zbc) (.slice zaA zan zac) (.string zt) (.string zg) (.slice zkA zkn zkc)) = w4 at c1c c2c KC zc uc ⊢
              have d := c2c.cell
              have df := c2c.frozen
              have dl := c2c.lt
              clear f0 f1 f2 f3 f4 f5 f6 f7 f8 cf cl
              have d0 : w4.cell? ⟨g2, 0, none⟩ = some (.int .i64 k') := d 0
              have d1 : w4.cell? ⟨g2, 1, none⟩ = some (.string n'.u) := d 1
              have d2 : w4.cell? ⟨g2, 2, none⟩ = some (.string n'.l) := d 2
              have d3 : w4.cell? ⟨g2, 3, none⟩ = some (.string n'.p) := d 3
              have d4 : w4.cell? ⟨g2, 4, none⟩ = some (.slice bA' bn' bc') := d 4
              have d5 : w4.cell? ⟨g2, 5, none⟩ = some (.slice aA' an' ac') := d 5
              have d6 : w4.cell? ⟨g2, 6, none⟩ = some (.string t') := d 6
              have d7 : w4.cell? ⟨g2, 7, none⟩ = some (.string g') := d 7
              have d8 : w4.cell? ⟨g2, 8, none⟩ = some (.slice kA' kn' kc') := d 8
              clear d
              refine hK.out _ _ (by trivial) (fun hHeld => ?_)
              clear hK K
              try simp only [Act.put, List.setIfInBounds_toArray, List.set_cons_zero, List.set_cons_succ]
              refine wpAnyH_ready (rs := [5]) (by kernel_rfl) (by simp) ?_
              refine AllReadyH.cons (o := { dst := none, op := Op.store 28 (Operand.tmp 3) (Operand.tmp 10), type := 0, pos := "law.go:81", after := #[{ on := 3, ground := Ground.data }, { on := 4, ground := Ground.chain }, { on := 0, ground := Ground.phase }, { on := 1, ground := Ground.phase }, { on := 2, ground := Ground.phase }, { on := 3, ground := Ground.phase }, { on := 4, ground := Ground.phase }], guard := none }) rfl (fun K hK => ?stepag111) ?moreag111
              case stepag111 =>
                go_simp
                have c2d := blk_setB9 c2c (.int .i64 uk) (.string un.u) (.string un.l) (.string un.p) (.slice ubA ubn ubc) (.slice uaA uan uac) (.string ut) (.string ug) (.slice ukA ukn ukc)
                have gd := grown_setB9 w4 g2 (.int .i64 uk) (.string un.u) (.string un.l) (.string un.p) (.slice ubA ubn ubc) (.slice uaA uan uac) (.string ut) (.string ug) (.slice ukA ukn ukc)
                have c1d := c1c.grown gd (by intro e'; injection e' with e'; omega)
                have KD := kept_setB9 KC (show w.heap.size ≤ g2 by rw [← hg2]; exact Nat.le_succ _) (.int .i64 uk) (.string un.u) (.string un.l) (.string un.p) (.slice ubA ubn ubc) (.slice uaA uan uac) (.string ut) (.string ug) (.slice ukA ukn ukc)
                have zd := zc.grown gd (hz.out.2.2.mono (fun b hb => by
                  intro e'
                  injection e' with e'
                  have hb' : b < w.heap.size ∨ w1.heap.size ≤ b := hb
                  omega))
                have ud := uc.grown gd (hu.out.2.2.mono (fun b hb => by
                  intro e'
                  injection e' with e'
                  have hb' : b < w.heap.size ∨ wa.heap.size ≤ b := hb
                  have sza' : w1.heap.size ≤ wa.heap.size := sza
                  omega))
                change K _ (setB9 w4 g2 (.int .i64 uk) (.string un.u) (.string un.l) (.string un.p) (.slice ubA ubn ubc) (.slice uaA uan uac) (.string ut) (.string ug) (.slice ukA ukn ukc))
                generalize (setB9 w4 g2 (.int .i64 uk) (.string un.u) (.string un.l) (.string un.p) (.slice ubA ubn ubc) (.slice uaA uan uac) (.string ut) (.string ug) (.slice ukA ukn ukc)) = w5 at c2d c1d KD zd ud ⊢
                clear d0 d1 d2 d3 d4 d5 d6 d7 d8 df dl
                refine hK.out _ _ (by trivial) (fun hHeld => ?_)
                clear hK K
                try simp only [Act.put, List.setIfInBounds_toArray, List.set_cons_zero, List.set_cons_succ]
                refine wpAnyH_done (by kernel_rfl) ?_ _
                go_wp2_with fail
                go_meet
                exact ⟨rfl, (Nd.mk zk zn zbA zbn zbc zbs zaA zan zac zal zt zg zkA zkn zkc zks), (Nd.mk uk un ubA ubn ubc ubs uaA uan uac ual ut ug ukA ukn ukc uks), by rw [Nd.arr_mk]; exact c1d, by rw [Nd.arr_mk]; exact c2d, zd, hz.out.2.1, ud, hu.out.2.1, KD⟩
              exact AllReadyH.nil
            exact AllReadyH.nil
          exact AllReadyH.nil
        exact AllReadyH.nil
      exact AllReadyH.nil
    refine AllReadyH.cons (o := { dst := some 9, op := Op.load 28 (Operand.tmp 3), type := 28, pos := "law.go:81", after := #[], guard := none }) rfl (fun K hK => ?stepag112) ?moreag112
    case stepag112 =>
      go_simp
      refine hK.out _ _ (by trivial) (fun hHeld => ?_)
      clear hK K
      try simp only [Act.put, List.setIfInBounds_toArray, List.set_cons_zero, List.set_cons_succ]
      refine wpAnyH_ready (rs := [0]) (by kernel_rfl) (by simp) ?_
      refine AllReadyH.cons (o := { dst := some 7, op := Op.load 28 (Operand.tmp 2), type := 28, pos := "law.go:81", after := #[], guard := none }) rfl (fun K hK => ?stepag113) ?moreag113
      case stepag113 =>
        go_simp
        refine hK.out _ _ (by trivial) (fun hHeld => ?_)
        clear hK K
        try simp only [Act.put, List.setIfInBounds_toArray, List.set_cons_zero, List.set_cons_succ]
        refine wpAnyH_ready (rs := [1]) (by kernel_rfl) (by simp) ?_
        refine AllReadyH.cons (o := { dst := some 8, op := Op.call { callee := Callee.value (Operand.func 7), args := #[Operand.tmp 7, Operand.const (Value.int IntKind.i64 4)], argTypes := #[28, 3] }, type := 28, pos := "law.go:81", after := #[{ on := 0, ground := Ground.data }], guard := none }) rfl (fun K hK => ?stepag114) ?moreag114
        case stepag114 =>
          go_simp
          go_at_call 7
          refine (HC2.out _ k1.drew).mono ?_
          rintro e wa ⟨zk, zn, zbA, zbn, zbc, zbs, zaA, zan, zac, zal, zt, zg, zkA, zkn, zkc, zks, rfl, hz, ka⟩
          have KA : Kept w wa := Kept.trans k1.drew ka
          have c1a := (b1.drew).kept ka
          have c2a := (b2.drew).kept ka
          have sza := ka.size
          have e0 : wa.cell? ⟨g2, 0, none⟩ = some (.int .i64 k') := c2a.cell 0
          have e1 : wa.cell? ⟨g2, 1, none⟩ = some (.string n'.u) := c2a.cell 1
          have e2 : wa.cell? ⟨g2, 2, none⟩ = some (.string n'.l) := c2a.cell 2
          have e3 : wa.cell? ⟨g2, 3, none⟩ = some (.string n'.p) := c2a.cell 3
          have e4 : wa.cell? ⟨g2, 4, none⟩ = some (.slice bA' bn' bc') := c2a.cell 4
          have e5 : wa.cell? ⟨g2, 5, none⟩ = some (.slice aA' an' ac') := c2a.cell 5
          have e6 : wa.cell? ⟨g2, 6, none⟩ = some (.string t') := c2a.cell 6
          have e7 : wa.cell? ⟨g2, 7, none⟩ = some (.string g') := c2a.cell 7
          have e8 : wa.cell? ⟨g2, 8, none⟩ = some (.slice kA' kn' kc') := c2a.cell 8
          go_wp2_with fail
          refine hK.out _ _ (by trivial) (fun hHeld => ?_)
          clear hK K
          try simp only [Act.put, List.setIfInBounds_toArray, List.set_cons_zero, List.set_cons_succ]
          refine wpAnyH_ready (rs := [3]) (by kernel_rfl) (by simp) ?_
          refine AllReadyH.cons (o := { dst := some 10, op := Op.call { callee := Callee.value (Operand.func 7), args := #[Operand.tmp 9, Operand.const (Value.int IntKind.i64 4)], argTypes := #[28, 3] }, type := 28, pos := "law.go:81", after := #[{ on := 2, ground := Ground.data }, { on := 1, ground := Ground.chain }], guard := none }) rfl (fun K hK => ?stepag115) ?moreag115
          case stepag115 =>
            go_simp
            go_at_call 7
            refine (HD2.out _ KA).mono ?_
            rintro e wb ⟨uk, un, ubA, ubn, ubc, ubs, uaA, uan, uac, ual, ut, ug, ukA, ukn, ukc, uks, rfl, hu, kb⟩
            have KB : Kept w wb := KA.trans kb
            have c1b := c1a.kept kb
            have c2b := c2a.kept kb
            have f0 : wb.cell? ⟨g1, 0, none⟩ = some (.int .i64 k) := c1b.cell 0
            have f1 : wb.cell? ⟨g1, 1, none⟩ = some (.string n.u) := c1b.cell 1
            have f2 : wb.cell? ⟨g1, 2, none⟩ = some (.string n.l) := c1b.cell 2
            have f3 : wb.cell? ⟨g1, 3, none⟩ = some (.string n.p) := c1b.cell 3
            have f4 : wb.cell? ⟨g1, 4, none⟩ = some (.slice bA bn bc) := c1b.cell 4
            have f5 : wb.cell? ⟨g1, 5, none⟩ = some (.slice aA an ac) := c1b.cell 5
            have f6 : wb.cell? ⟨g1, 6, none⟩ = some (.string t) := c1b.cell 6
            have f7 : wb.cell? ⟨g1, 7, none⟩ = some (.string g) := c1b.cell 7
            have f8 : wb.cell? ⟨g1, 8, none⟩ = some (.slice kA kn kc) := c1b.cell 8
            have cf := c1b.frozen
            have cl := c1b.lt
            have szb := kb.size
            go_wp2_with fail
            refine hK.out _ _ (by trivial) (fun hHeld => ?_)
            clear hK K
            try simp only [Act.put, List.setIfInBounds_toArray, List.set_cons_zero, List.set_cons_succ]
            refine wpAnyH_ready (rs := [4]) (by kernel_rfl) (by simp) ?_
            refine AllReadyH.cons (o := { dst := none, op := Op.store 28 (Operand.tmp 2) (Operand.tmp 8), type := 0, pos := "law.go:81", after := #[{ on := 1, ground := Ground.data }, { on := 3, ground := Ground.chain }, { on := 0, ground := Ground.phase }, { on := 1, ground := Ground.phase }, { on := 2, ground := Ground.textOnly Departure.lateStores }, { on := 3, ground := Ground.textOnly Departure.lateStoresUnsure }], guard := none }) rfl (fun K hK => ?stepag116) ?moreag116
            case stepag116 =>
              go_simp
              have c1c := blk_setB9 c1b (.int .i64 zk) (.string zn.u) (.string zn.l) (.string zn.p) (.slice zbA zbn zbc) (.slice zaA zan zac) (.string zt) (.string zg) (.slice zkA zkn zkc)
              have gc := grown_setB9 wb g1 (.int .i64 zk) (.string zn.u) (.string zn.l) (.string zn.p) (.slice zbA zbn zbc) (.slice zaA zan zac) (.string zt) (.string zg) (.slice zkA zkn zkc)
              have c2c := c2b.grown gc (by intro e'; injection e' with e'; omega)
              have KC := kept_setB9 KB (Nat.le_of_eq hg1) (.int .i64 zk) (.string zn.u) (.string zn.l) (.string zn.p) (.slice zbA zbn zbc) (.slice zaA zan zac) (.string zt) (.string zg) (.slice zkA zkn zkc)
              have zc := (hz.out.1.kept kb).grown gc (hz.out.2.2.mono (fun b hb => by
                intro e'
                injection e' with e'
                have hb' : b < w.heap.size ∨ w1.heap.size ≤ b := hb
                omega))
              have uc := hu.out.1.grown gc (hu.out.2.2.mono (fun b hb => by
                intro e'
                injection e' with e'
                have hb' : b < w.heap.size ∨ wa.heap.size ≤ b := hb
                have sza' : w1.heap.size ≤ wa.heap.size := sza
                omega))
              change K _ (setB9 wb g1 (.int .i64 zk) (.string zn.u) (.string zn.l) (.string zn.p) (.slice zbA zbn zbc) (.slice zaA zan zac) (.string zt) (.string zg) (.slice zkA zkn zkc))
              generalize (setB9 wb g1 (.int .i64 zk) (.string zn.u) (.string zn.l) (.string zn.p) (.slice zbA zbn zbc) (.slice zaA zan zac) (.string zt) (.string zg) (.slice zkA zkn zkc)) = w4 at c1c c2c KC zc uc ⊢
              have d := c2c.cell
              have df := c2c.frozen
              have dl := c2c.lt
              clear f0 f1 f2 f3 f4 f5 f6 f7 f8 cf cl
              have d0 : w4.cell? ⟨g2, 0, none⟩ = some (.int .i64 k') := d 0
              have d1 : w4.cell? ⟨g2, 1, none⟩ = some (.string n'.u) := d 1
              have d2 : w4.cell? ⟨g2, 2, none⟩ = some (.string n'.l) := d 2
              have d3 : w4.cell? ⟨g2, 3, none⟩ = some (.string n'.p) := d 3
              have d4 : w4.cell? ⟨g2, 4, none⟩ = some (.slice bA' bn' bc') := d 4
              have d5 : w4.cell? ⟨g2, 5, none⟩ = some (.slice aA' an' ac') := d 5
              have d6 : w4.cell? ⟨g2, 6, none⟩ = some (.string t') := d 6
              have d7 : w4.cell? ⟨g2, 7, none⟩ = some (.string g') := d 7
              have d8 : w4.cell? ⟨g2, 8, none⟩ = some (.slice kA' kn' kc') := d 8
              clear d
              refine hK.out _ _ (by trivial) (fun hHeld => ?_)
              clear hK K
              try simp only [Act.put, List.setIfInBounds_toArray, List.set_cons_zero, List.set_cons_succ]
              refine wpAnyH_ready (rs := [5]) (by kernel_rfl) (by simp) ?_
              refine AllReadyH.cons (o := { dst := none, op := Op.store 28 (Operand.tmp 3) (Operand.tmp 10), type := 0, pos := "law.go:81", after := #[{ on := 3, ground := Ground.data }, { on := 4, ground := Ground.chain }, { on := 0, ground := Ground.phase }, { on := 1, ground := Ground.phase }, { on := 2, ground := Ground.phase }, { on := 3, ground := Ground.phase }, { on := 4, ground := Ground.phase }], guard := none }) rfl (fun K hK => ?stepag117) ?moreag117
              case stepag117 =>
                go_simp
                have c2d := blk_setB9 c2c (.int .i64 uk) (.string un.u) (.string un.l) (.string un.p) (.slice ubA ubn ubc) (.slice uaA uan uac) (.string ut) (.string ug) (.slice ukA ukn ukc)
                have gd := grown_setB9 w4 g2 (.int .i64 uk) (.string un.u) (.string un.l) (.string un.p) (.slice ubA ubn ubc) (.slice uaA uan uac) (.string ut) (.string ug) (.slice ukA ukn ukc)
                have c1d := c1c.grown gd (by intro e'; injection e' with e'; omega)
                have KD := kept_setB9 KC (show w.heap.size ≤ g2 by rw [← hg2]; exact Nat.le_succ _) (.int .i64 uk) (.string un.u) (.string un.l) (.string un.p) (.slice ubA ubn ubc) (.slice uaA uan uac) (.string ut) (.string ug) (.slice ukA ukn ukc)
                have zd := zc.grown gd (hz.out.2.2.mono (fun b hb => by
                  intro e'
                  injection e' with e'
                  have hb' : b < w.heap.size ∨ w1.heap.size ≤ b := hb
                  omega))
                have ud := uc.grown gd (hu.out.2.2.mono (fun b hb => by
                  intro e'
                  injection e' with e'
                  have hb' : b < w.heap.size ∨ wa.heap.size ≤ b := hb
                  have sza' : w1.heap.size ≤ wa.heap.size := sza
                  omega))
                change K _ (setB9 w4 g2 (.int .i64 uk) (.string un.u) (.string un.l) (.string un.p) (.slice ubA ubn ubc) (.slice uaA uan uac) (.string ut) (.string ug) (.slice ukA ukn ukc))
                generalize (setB9 w4 g2 (.int .i64 uk) (.string un.u) (.string un.l) (.string un.p) (.slice ubA ubn ubc) (.slice uaA uan uac) (.string ut) (.string ug) (.slice ukA ukn ukc)) = w5 at c2d c1d KD zd ud ⊢
                clear d0 d1 d2 d3 d4 d5 d6 d7 d8 df dl
                refine hK.out _ _ (by trivial) (fun hHeld => ?_)
                clear hK K
                try simp only [Act.put, List.setIfInBounds_toArray, List.set_cons_zero, List.set_cons_succ]
                refine wpAnyH_done (by kernel_rfl) ?_ _
                go_wp2_with fail
                go_meet
                exact ⟨rfl, (Nd.mk zk zn zbA zbn zbc zbs zaA zan zac zal zt zg zkA zkn zkc zks), (Nd.mk uk un ubA ubn ubc ubs uaA uan uac ual ut ug ukA ukn ukc uks), by rw [Nd.arr_mk]; exact c1d, by rw [Nd.arr_mk]; exact c2d, zd, hz.out.2.1, ud, hu.out.2.1, KD⟩
              exact AllReadyH.nil
            exact AllReadyH.nil
          exact AllReadyH.nil
        exact AllReadyH.nil
      exact AllReadyH.nil
    exact AllReadyH.nil
  case rest =>
    obtain ⟨rfl, z, u, hBz, hBu, zok, ztr, uok, utr, KW⟩ := hcut
    obtain ⟨w3, hw3⟩ : ∃ q, q = wc := ⟨_, rfl⟩
    subst hw3
    obtain ⟨zk, zn, zbA, zbn, zbc, zbs, zaA, zan, zac, zal, zt, zg, zkA, zkn, zkc, zks⟩ := z
    obtain ⟨uk, un, ubA, ubn, ubc, ubs, uaA, uan, uac, ual, ut, ug, ukA, ukn, ukc, uks⟩ := u
    rw [Nd.arr_mk] at hBz hBu
    have Z := Lib.hid (show _ ∧ _ ∧ _ ∧ _ from ⟨zok, ztr, uok, utr⟩)
    have HBB := Lib.hid (show _ ∧ _ from ⟨hBz, hBu⟩)
    clear zok ztr uok utr HC2 HD2 HX HY b1 b2 k1
    have OZ : Hid (∀ w', Kept w3 w' → Calls Try.prog 9 #[.agg #[.int .i64 zk, .string zn.u, .string zn.l, .string zn.p, .slice zbA zbn zbc, .slice zaA zan zac, .string zt, .string zg, .slice zkA zkn zkc]] w' fun e w'' => MadeOf (Nd.mk zk zn zbA zbn zbc zbs zaA zan zac zal zt zg zkA zkn zkc zks) w' e w'') := fun w' kk => ours_any (Nd.mk zk zn zbA zbn zbc zbs zaA zan zac zal zt zg zkA zkn zkc zks) w' (Z.out.1.kept kk) (by rw [Z.out.2.1]; exact HSM.out.1)
    have OU : Hid (∀ w', Kept w3 w' → Calls Try.prog 9 #[.agg #[.int .i64 uk, .string un.u, .string un.l, .string un.p, .slice ubA ubn ubc, .slice uaA uan uac, .string ut, .string ug, .slice ukA ukn ukc]] w' fun e w'' => MadeOf (Nd.mk uk un ubA ubn ubc ubs uaA uan uac ual ut ug ukA ukn ukc uks) w' e w'') := fun w' kk => ours_any (Nd.mk uk un ubA ubn ubc ubs uaA uan uac ual ut ug ukA ukn ukc uks) w' (Z.out.2.2.1.kept kk) (by rw [Z.out.2.2.2]; exact HSM.out.2)
    have MK : Hid (∀ w', Kept w3 w' → w'.cell? ⟨g1, 0, none⟩ = some (.int .i64 zk) ∧ w'.cell? ⟨g1, 1, none⟩ = some (.string zn.u) ∧ w'.cell? ⟨g1, 2, none⟩ = some (.string zn.l) ∧ w'.cell? ⟨g1, 3, none⟩ = some (.string zn.p) ∧ w'.cell? ⟨g1, 4, none⟩ = some (.slice zbA zbn zbc) ∧ w'.cell? ⟨g1, 5, none⟩ = some (.slice zaA zan zac) ∧ w'.cell? ⟨g1, 6, none⟩ = some (.string zt) ∧ w'.cell? ⟨g1, 7, none⟩ = some (.string zg) ∧ w'.cell? ⟨g1, 8, none⟩ = some (.slice zkA zkn zkc) ∧ w'.cell? ⟨g2, 0, none⟩ = some (.int .i64 uk) ∧ w'.cell? ⟨g2, 1, none⟩ = some (.string un.u) ∧ w'.cell? ⟨g2, 2, none⟩ = some (.string un.l) ∧ w'.cell? ⟨g2, 3, none⟩ = some (.string un.p) ∧ w'.cell? ⟨g2, 4, none⟩ = some (.slice ubA ubn ubc) ∧ w'.cell? ⟨g2, 5, none⟩ = some (.slice uaA uan uac) ∧ w'.cell? ⟨g2, 6, none⟩ = some (.string ut) ∧ w'.cell? ⟨g2, 7, none⟩ = some (.string ug) ∧ w'.cell? ⟨g2, 8, none⟩ = some (.slice ukA ukn ukc)) := by
      intro w' kk
      have b1 := (HBB.out.1.kept kk).cell
      have b2 := (HBB.out.2.kept kk).cell
      exact ⟨b1 0, b1 1, b1 2, b1 3, b1 4, b1 5, b1 6, b1 7, b1 8, b2 0, b2 1, b2 2, b2 3, b2 4, b2 5, b2 6, b2 7, b2 8⟩
    have kw : Kept w3 w3.drew := (Kept.refl w3).drew
    clear hBz hBu
    go_upto_region 2 with fail
    go_cut [5, 6] (fun s5 s6 wx => ∃ (g5 g6 : Nat) (p q : Nd), s5 = .pointer (some ⟨g5, 0, none⟩) ∧ s6 = .pointer (some ⟨g6, 0, none⟩) ∧ Blk wx g5 p.arr 36 ∧ Blk wx g6 q.arr 36 ∧ p.ok wx ∧ p.tr = X ∧ q.ok wx ∧ q.tr = Y ∧ Kept w3 wx)
    case first =>
      refine wp_region_held_drew (S := fun w' => w'.cell? ⟨g1, 0, none⟩ = some (.int .i64 zk) ∧ w'.cell? ⟨g1, 1, none⟩ = some (.string zn.u) ∧ w'.cell? ⟨g1, 2, none⟩ = some (.string zn.l) ∧ w'.cell? ⟨g1, 3, none⟩ = some (.string zn.p) ∧ w'.cell? ⟨g1, 4, none⟩ = some (.slice zbA zbn zbc) ∧ w'.cell? ⟨g1, 5, none⟩ = some (.slice zaA zan zac) ∧ w'.cell? ⟨g1, 6, none⟩ = some (.string zt) ∧ w'.cell? ⟨g1, 7, none⟩ = some (.string zg) ∧ w'.cell? ⟨g1, 8, none⟩ = some (.slice zkA zkn zkc) ∧ w'.cell? ⟨g2, 0, none⟩ = some (.int .i64 uk) ∧ w'.cell? ⟨g2, 1, none⟩ = some (.string un.u) ∧ w'.cell? ⟨g2, 2, none⟩ = some (.string un.l) ∧ w'.cell? ⟨g2, 3, none⟩ = some (.string un.p) ∧ w'.cell? ⟨g2, 4, none⟩ = some (.slice ubA ubn ubc) ∧ w'.cell? ⟨g2, 5, none⟩ = some (.slice uaA uan uac) ∧ w'.cell? ⟨g2, 6, none⟩ = some (.string ut) ∧ w'.cell? ⟨g2, 7, none⟩ = some (.string ug) ∧ w'.cell? ⟨g2, 8, none⟩ = some (.slice ukA ukn ukc)) (by kernel_rfl) (MK.out _ kw) (fun hHeld => ?_)
      refine wpAnyH_take (i := 0) (oi := { dst := some 11, op := Op.load 28 (Operand.tmp 2), type := 28, pos := "law.go:82", after := #[], guard := none }) (v := ?vvag21) rfl (by kernel_rfl) (by kernel_rfl) (by kernel_rfl) (fun _ _ _ h => h) (Or.inl ⟨by rfl, ?hyag21⟩) (by assumption) ?restag21
      case hyag21 => (intro wS hSw; (try dsimp only at hSw); (repeat (obtain ⟨_, hSw⟩ := hSw)); go_simp; try (with_reducible rfl))
      try simp only [Act.put, List.setIfInBounds_toArray, List.set_cons_zero, List.set_cons_succ]
      refine wpAnyH_take (i := 2) (oi := { dst := some 13, op := Op.load 28 (Operand.tmp 3), type := 28, pos := "law.go:82", after := #[], guard := none }) (v := ?vvag22) rfl (by kernel_rfl) (by kernel_rfl) (by kernel_rfl) (fun _ _ _ h => h) (Or.inl ⟨by rfl, ?hyag22⟩) (by assumption) ?restag22
      case hyag22 => (intro wS hSw; (try dsimp only at hSw); (repeat (obtain ⟨_, hSw⟩ := hSw)); go_simp; try (with_reducible rfl))
      try simp only [Act.put, List.setIfInBounds_toArray, List.set_cons_zero, List.set_cons_succ]
      refine wpAnyH_ready (rs := [1, 4, 5]) (by kernel_rfl) (by simp) ?_
      refine AllReadyH.cons (o := { dst := some 12, op := Op.call { callee := Callee.value (Operand.func 9), args := #[Operand.tmp 11], argTypes := #[28] }, type := 36, pos := "law.go:82", after := #[{ on := 0, ground := Ground.data }], guard := none }) rfl (fun K hK => ?stepag23) ?moreag23
      case stepag23 =>
        go_simp
        go_at_call 9
        refine (OZ.out _ kw).mono ?_
        rintro e wc ⟨p, rfl, pok, ptr, pout, ka⟩
        obtain ⟨pk, pn, pbA, pbn, pbc, pbs, paA, pan, pac, pal, pt, pg, pkA, pkn, pkc, pks⟩ := p
        try (have po5 := out_ne_of_ge pout B5.lt)
        try (have po6 := out_ne_of_ge pout B6.lt)
        try (replace B5 := B5.kept ka)
        try (replace B6 := B6.kept ka)
        try (replace qok := qok.kept ka)
        have kw := kw.trans ka
        rw [Nd.val_mk]
        go_wp2_with fail
        refine hK.out _ _ (by first | (with_reducible exact MK.out _ kw)) (fun hHeld => ?_)
        clear hK K
        try simp only [Act.put, List.setIfInBounds_toArray, List.set_cons_zero, List.set_cons_succ]
        refine wpAnyH_ready (rs := [3, 4, 5]) (by kernel_rfl) (by simp) ?_
        refine AllReadyH.cons (o := { dst := some 14, op := Op.call { callee := Callee.value (Operand.func 9), args := #[Operand.tmp 13], argTypes := #[28] }, type := 36, pos := "law.go:82", after := #[{ on := 2, ground := Ground.data }, { on := 1, ground := Ground.chain }], guard := none }) rfl (fun K hK => ?stepag24) ?moreag24
        case stepag24 =>
          go_simp
          go_at_call 9
          refine (OU.out _ kw).mono ?_
          rintro e wc ⟨q, rfl, qok, qtr, qout, ka⟩
          obtain ⟨qk, qn, qbA, qbn, qbc, qbs, qaA, qan, qac, qal, qt, qg, qkA, qkn, qkc, qks⟩ := q
          try (have qo5 := out_ne_of_ge qout B5.lt)
          try (have qo6 := out_ne_of_ge qout B6.lt)
          try (replace B5 := B5.kept ka)
          try (replace B6 := B6.kept ka)
          try (replace pok := pok.kept ka)
          have kw := kw.trans ka
          rw [Nd.val_mk]
          go_wp2_with fail
          refine hK.out _ _ (by first | (with_reducible exact MK.out _ kw)) (fun hHeld => ?_)
          clear hK K
          try simp only [Act.put, List.setIfInBounds_toArray, List.set_cons_zero, List.set_cons_succ]
          refine wpAnyH_ready (rs := [4, 5]) (by kernel_rfl) (by simp) ?_
          refine AllReadyH.cons (o := { dst := some 5, op := Op.alloc 36, type := 0, pos := "law.go:82", after := #[], guard := none }) rfl (fun K hK => ?stepag25) ?moreag25
          case stepag25 =>
            go_simp
            first
            | (have B5 : Blk (wc.alloc (.cells znd 36)) wc.heap.size znd 36 := Blk.new wc znd _
               have ka := (Kept.refl wc).alloc (.cells znd 36)
               obtain ⟨g5, hg5⟩ : ∃ g, wc.heap.size = g := ⟨_, rfl⟩
               have hge5 : w3.heap.size ≤ g5 := by rw [← hg5]; exact kw.size
               try (have hne56 := ne_of_lt5 B6.lt hg5)
               try (have po5 := out_ne_of_lt pok hg5)
               try (have qo5 := out_ne_of_lt qok hg5)
               change K _ (wc.alloc (.cells znd 36))
               rw [hg5] at B5 ⊢
               clear hg5
               generalize wc.alloc (.cells znd 36) = wc at B5 ka ⊢
               try (replace B6 := B6.kept ka)
               try (replace pok := pok.kept ka)
               try (replace qok := qok.kept ka)
               have kw := kw.trans ka)
            | (have B5 : Blk (w3.drew.alloc (.cells znd 36)) w3.heap.size znd 36 := Blk.new w3.drew znd _
               have ka := (Kept.refl w3.drew).alloc (.cells znd 36)
               obtain ⟨g5, hg5⟩ : ∃ g, w3.heap.size = g := ⟨_, rfl⟩
               have hge5 : w3.heap.size ≤ g5 := by rw [← hg5]; exact kw.size
               try (have hne56 := ne_of_lt5 B6.lt hg5)
               try (have po5 := out_ne_of_lt pok hg5)
               try (have qo5 := out_ne_of_lt qok hg5)
               change K _ (w3.drew.alloc (.cells znd 36))
               rw [hg5] at B5 ⊢
               clear hg5
               generalize w3.drew.alloc (.cells znd 36) = wc at B5 ka ⊢
               try (replace B6 := B6.kept ka)
               try (replace pok := pok.kept ka)
               try (replace qok := qok.kept ka)
               have kw := kw.trans ka)
            refine hK.out _ _ (by first | (with_reducible exact MK.out _ kw)) (fun hHeld => ?_)
            clear hK K
            try simp only [Act.put, List.setIfInBounds_toArray, List.set_cons_zero, List.set_cons_succ]
            refine wpAnyH_ready (rs := [5]) (by kernel_rfl) (by simp) ?_
            refine AllReadyH.cons (o := { dst := some 6, op := Op.alloc 36, type := 0, pos := "law.go:82", after := #[], guard := none }) rfl (fun K hK => ?stepag26) ?moreag26
            case stepag26 =>
              go_simp
              first
              | (have B6 : Blk (wc.alloc (.cells znd 36)) wc.heap.size znd 36 := Blk.new wc znd _
                 have ka := (Kept.refl wc).alloc (.cells znd 36)
                 obtain ⟨g6, hg6⟩ : ∃ g, wc.heap.size = g := ⟨_, rfl⟩
                 have hge6 : w3.heap.size ≤ g6 := by rw [← hg6]; exact kw.size
                 try (have hne56 := ne_of_lt6 B5.lt hg6)
                 try (have po6 := out_ne_of_lt pok hg6)
                 try (have qo6 := out_ne_of_lt qok hg6)
                 change K _ (wc.alloc (.cells znd 36))
                 rw [hg6] at B6 ⊢
                 clear hg6
                 generalize wc.alloc (.cells znd 36) = wc at B6 ka ⊢
                 try (replace B5 := B5.kept ka)
                 try (replace pok := pok.kept ka)
                 try (replace qok := qok.kept ka)
                 have kw := kw.trans ka)
              | (have B6 : Blk (w3.drew.alloc (.cells znd 36)) w3.heap.size znd 36 := Blk.new w3.drew znd _
                 have ka := (Kept.refl w3.drew).alloc (.cells znd 36)
                 obtain ⟨g6, hg6⟩ : ∃ g, w3.heap.size = g := ⟨_, rfl⟩
                 have hge6 : w3.heap.size ≤ g6 := by rw [← hg6]; exact kw.size
                 try (have hne56 := ne_of_lt6 B5.lt hg6)
                 try (have po6 := out_ne_of_lt pok hg6)
                 try (have qo6 := out_ne_of_lt qok hg6)
                 change K _ (w3.drew.alloc (.cells znd 36))
                 rw [hg6] at B6 ⊢
                 clear hg6
                 generalize w3.drew.alloc (.cells znd 36) = wc at B6 ka ⊢
                 try (replace B5 := B5.kept ka)
                 try (replace pok := pok.kept ka)
                 try (replace qok := qok.kept ka)
                 have kw := kw.trans ka)
              refine hK.out _ _ (by first | (with_reducible exact MK.out _ kw)) (fun hHeld => ?_)
              clear hK K
              try simp only [Act.put, List.setIfInBounds_toArray, List.set_cons_zero, List.set_cons_succ]
              refine wpAnyH_ready (rs := [6]) (by kernel_rfl) (by simp) ?_
              refine AllReadyH.cons (o := { dst := none, op := Op.store 36 (Operand.tmp 5) (Operand.tmp 12), type := 0, pos := "law.go:82", after := #[{ on := 4, ground := Ground.data }, { on := 1, ground := Ground.data }, { on := 3, ground := Ground.chain }, { on := 0, ground := Ground.phase }, { on := 1, ground := Ground.phase }, { on := 2, ground := Ground.textOnly Departure.lateStores }, { on := 3, ground := Ground.textOnly Departure.lateStoresUnsure }, { on := 4, ground := Ground.phase }, { on := 5, ground := Ground.phase }], guard := none }) rfl (fun K hK => ?stepag27) ?moreag27
              case stepag27 =>
                obtain ⟨y0, y1, y2, y3, y4, y5, y6, y7, y8, yf, yl⟩ := blk_znd B5
                go_simp
                have gs := grown_setB9 wc g5 (.int .i64 pk) (.string pn.u) (.string pn.l) (.string pn.p) (.slice pbA pbn pbc) (.slice paA pan pac) (.string pt) (.string pg) (.slice pkA pkn pkc)
                replace B5 := blk_setB9 B5 (.int .i64 pk) (.string pn.u) (.string pn.l) (.string pn.p) (.slice pbA pbn pbc) (.slice paA pan pac) (.string pt) (.string pg) (.slice pkA pkn pkc)
                replace B6 := B6.grown gs (by intro e'; injection e' with e'; omega)
                replace pok := pok.grown gs (po5.mono (fun b hb e' => hb (by injection e')))
                replace qok := qok.grown gs (qo5.mono (fun b hb e' => hb (by injection e')))
                have kw := kept_setB9 kw hge5 (.int .i64 pk) (.string pn.u) (.string pn.l) (.string pn.p) (.slice pbA pbn pbc) (.slice paA pan pac) (.string pt) (.string pg) (.slice pkA pkn pkc)
                change K _ (setB9 wc g5 (.int .i64 pk) (.string pn.u) (.string pn.l) (.string pn.p) (.slice pbA pbn pbc) (.slice paA pan pac) (.string pt) (.string pg) (.slice pkA pkn pkc))
                generalize (setB9 wc g5 (.int .i64 pk) (.string pn.u) (.string pn.l) (.string pn.p) (.slice pbA pbn pbc) (.slice paA pan pac) (.string pt) (.string pg) (.slice pkA pkn pkc)) = wc at B5 B6 pok qok kw ⊢
                clear gs y0 y1 y2 y3 y4 y5 y6 y7 y8 yf yl
                refine hK.out _ _ (by first | (with_reducible exact MK.out _ kw)) (fun hHeld => ?_)
                clear hK K
                try simp only [Act.put, List.setIfInBounds_toArray, List.set_cons_zero, List.set_cons_succ]
                refine wpAnyH_ready (rs := [7]) (by kernel_rfl) (by simp) ?_
                refine AllReadyH.cons (o := { dst := none, op := Op.store 36 (Operand.tmp 6) (Operand.tmp 14), type := 0, pos := "law.go:82", after := #[{ on := 5, ground := Ground.data }, { on := 3, ground := Ground.data }, { on := 6, ground := Ground.chain }, { on := 0, ground := Ground.phase }, { on := 1, ground := Ground.phase }, { on := 2, ground := Ground.phase }, { on := 3, ground := Ground.phase }, { on := 4, ground := Ground.phase }, { on := 5, ground := Ground.phase }, { on := 6, ground := Ground.phase }], guard := none }) rfl (fun K hK => ?stepag28) ?moreag28
                case stepag28 =>
                  obtain ⟨y0, y1, y2, y3, y4, y5, y6, y7, y8, yf, yl⟩ := blk_znd B6
                  go_simp
                  have gs := grown_setB9 wc g6 (.int .i64 qk) (.string qn.u) (.string qn.l) (.string qn.p) (.slice qbA qbn qbc) (.slice qaA qan qac) (.string qt) (.string qg) (.slice qkA qkn qkc)
                  replace B6 := blk_setB9 B6 (.int .i64 qk) (.string qn.u) (.string qn.l) (.string qn.p) (.slice qbA qbn qbc) (.slice qaA qan qac) (.string qt) (.string qg) (.slice qkA qkn qkc)
                  replace B5 := B5.grown gs (by intro e'; injection e' with e'; omega)
                  replace pok := pok.grown gs (po6.mono (fun b hb e' => hb (by injection e')))
                  replace qok := qok.grown gs (qo6.mono (fun b hb e' => hb (by injection e')))
                  have kw := kept_setB9 kw hge6 (.int .i64 qk) (.string qn.u) (.string qn.l) (.string qn.p) (.slice qbA qbn qbc) (.slice qaA qan qac) (.string qt) (.string qg) (.slice qkA qkn qkc)
                  change K _ (setB9 wc g6 (.int .i64 qk) (.string qn.u) (.string qn.l) (.string qn.p) (.slice qbA qbn qbc) (.slice qaA qan qac) (.string qt) (.string qg) (.slice qkA qkn qkc))
                  generalize (setB9 wc g6 (.int .i64 qk) (.string qn.u) (.string qn.l) (.string qn.p) (.slice qbA qbn qbc) (.slice qaA qan qac) (.string qt) (.string qg) (.slice qkA qkn qkc)) = wc at B5 B6 pok qok kw ⊢
                  clear gs y0 y1 y2 y3 y4 y5 y6 y7 y8 yf yl
                  refine hK.out _ _ (by first | (with_reducible exact MK.out _ kw)) (fun hHeld => ?_)
                  clear hK K
                  try simp only [Act.put, List.setIfInBounds_toArray, List.set_cons_zero, List.set_cons_succ]
                  refine wpAnyH_done (by kernel_rfl) ?_ _
                  go_wp2_with fail
                  go_meet
                  exact ⟨g5, g6, (Nd.mk pk pn pbA pbn pbc pbs paA pan pac pal pt pg pkA pkn pkc pks), (Nd.mk qk qn qbA qbn qbc qbs qaA qan qac qal qt qg qkA qkn qkc qks), rfl, rfl, by rw [Nd.arr_mk]; exact B5, by rw [Nd.arr_mk]; exact B6, pok, ptr.trans Z.out.2.1, qok, qtr.trans Z.out.2.2.2, kw⟩
                exact AllReadyH.nil
              exact AllReadyH.nil
            exact AllReadyH.nil
          refine AllReadyH.cons (o := { dst := some 6, op := Op.alloc 36, type := 0, pos := "law.go:82", after := #[], guard := none }) rfl (fun K hK => ?stepag29) ?moreag29
          case stepag29 =>
            go_simp
            first
            | (have B6 : Blk (wc.alloc (.cells znd 36)) wc.heap.size znd 36 := Blk.new wc znd _
               have ka := (Kept.refl wc).alloc (.cells znd 36)
               obtain ⟨g6, hg6⟩ : ∃ g, wc.heap.size = g := ⟨_, rfl⟩
               have hge6 : w3.heap.size ≤ g6 := by rw [← hg6]; exact kw.size
               try (have hne56 := ne_of_lt6 B5.lt hg6)
               try (have po6 := out_ne_of_lt pok hg6)
               try (have qo6 := out_ne_of_lt qok hg6)
               change K _ (wc.alloc (.cells znd 36))
               rw [hg6] at B6 ⊢
               clear hg6
               generalize wc.alloc (.cells znd 36) = wc at B6 ka ⊢
               try (replace B5 := B5.kept ka)
               try (replace pok := pok.kept ka)
               try (replace qok := qok.kept ka)
               have kw := kw.trans ka)
            | (have B6 : Blk (w3.drew.alloc (.cells znd 36)) w3.heap.size znd 36 := Blk.new w3.drew znd _
               have ka := (Kept.refl w3.drew).alloc (.cells znd 36)
               obtain ⟨g6, hg6⟩ : ∃ g, w3.heap.size = g := ⟨_, rfl⟩
               have hge6 : w3.heap.size ≤ g6 := by rw [← hg6]; exact kw.size
               try (have hne56 := ne_of_lt6 B5.lt hg6)
               try (have po6 := out_ne_of_lt pok hg6)
               try (have qo6 := out_ne_of_lt qok hg6)
               change K _ (w3.drew.alloc (.cells znd 36))
               rw [hg6] at B6 ⊢
               clear hg6
               generalize w3.drew.alloc (.cells znd 36) = wc at B6 ka ⊢
               try (replace B5 := B5.kept ka)
               try (replace pok := pok.kept ka)
               try (replace qok := qok.kept ka)
               have kw := kw.trans ka)
            refine hK.out _ _ (by first | (with_reducible exact MK.out _ kw)) (fun hHeld => ?_)
            clear hK K
            try simp only [Act.put, List.setIfInBounds_toArray, List.set_cons_zero, List.set_cons_succ]
            refine wpAnyH_ready (rs := [4]) (by kernel_rfl) (by simp) ?_
            refine AllReadyH.cons (o := { dst := some 5, op := Op.alloc 36, type := 0, pos := "law.go:82", after := #[], guard := none }) rfl (fun K hK => ?stepag210) ?moreag210
            case stepag210 =>
              go_simp
              first
              | (have B5 : Blk (wc.alloc (.cells znd 36)) wc.heap.size znd 36 := Blk.new wc znd _
                 have ka := (Kept.refl wc).alloc (.cells znd 36)
                 obtain ⟨g5, hg5⟩ : ∃ g, wc.heap.size = g := ⟨_, rfl⟩
                 have hge5 : w3.heap.size ≤ g5 := by rw [← hg5]; exact kw.size
                 try (have hne56 := ne_of_lt5 B6.lt hg5)
                 try (have po5 := out_ne_of_lt pok hg5)
                 try (have qo5 := out_ne_of_lt qok hg5)
                 change K _ (wc.alloc (.cells znd 36))
                 rw [hg5] at B5 ⊢
                 clear hg5
                 generalize wc.alloc (.cells znd 36) = wc at B5 ka ⊢
                 try (replace B6 := B6.kept ka)
                 try (replace pok := pok.kept ka)
                 try (replace qok := qok.kept ka)
                 have kw := kw.trans ka)
              | (have B5 : Blk (w3.drew.alloc (.cells znd 36)) w3.heap.size znd 36 := Blk.new w3.drew znd _
                 have ka := (Kept.refl w3.drew).alloc (.cells znd 36)
                 obtain ⟨g5, hg5⟩ : ∃ g, w3.heap.size = g := ⟨_, rfl⟩
                 have hge5 : w3.heap.size ≤ g5 := by rw [← hg5]; exact kw.size
                 try (have hne56 := ne_of_lt5 B6.lt hg5)
                 try (have po5 := out_ne_of_lt pok hg5)
                 try (have qo5 := out_ne_of_lt qok hg5)
                 change K _ (w3.drew.alloc (.cells znd 36))
                 rw [hg5] at B5 ⊢
                 clear hg5
                 generalize w3.drew.alloc (.cells znd 36) = wc at B5 ka ⊢
                 try (replace B6 := B6.kept ka)
                 try (replace pok := pok.kept ka)
                 try (replace qok := qok.kept ka)
                 have kw := kw.trans ka)
              refine hK.out _ _ (by first | (with_reducible exact MK.out _ kw)) (fun hHeld => ?_)
              clear hK K
              try simp only [Act.put, List.setIfInBounds_toArray, List.set_cons_zero, List.set_cons_succ]
              refine wpAnyH_ready (rs := [6]) (by kernel_rfl) (by simp) ?_
              refine AllReadyH.cons (o := { dst := none, op := Op.store 36 (Operand.tmp 5) (Operand.tmp 12), type := 0, pos := "law.go:82", after := #[{ on := 4, ground := Ground.data }, { on := 1, ground := Ground.data }, { on := 3, ground := Ground.chain }, { on := 0, ground := Ground.phase }, { on := 1, ground := Ground.phase }, { on := 2, ground := Ground.textOnly Departure.lateStores }, { on := 3, ground := Ground.textOnly Departure.lateStoresUnsure }, { on := 4, ground := Ground.phase }, { on := 5, ground := Ground.phase }], guard := none }) rfl (fun K hK => ?stepag211) ?moreag211
              case stepag211 =>
                obtain ⟨y0, y1, y2, y3, y4, y5, y6, y7, y8, yf, yl⟩ := blk_znd B5
                go_simp
                have gs := grown_setB9 wc g5 (.int .i64 pk) (.string pn.u) (.string pn.l) (.string pn.p) (.slice pbA pbn pbc) (.slice paA pan pac) (.string pt) (.string pg) (.slice pkA pkn pkc)
                replace B5 := blk_setB9 B5 (.int .i64 pk) (.string pn.u) (.string pn.l) (.string pn.p) (.slice pbA pbn pbc) (.slice paA pan pac) (.string pt) (.string pg) (.slice pkA pkn pkc)
                replace B6 := B6.grown gs (by intro e'; injection e' with e'; omega)
                replace pok := pok.grown gs (po5.mono (fun b hb e' => hb (by injection e')))
                replace qok := qok.grown gs (qo5.mono (fun b hb e' => hb (by injection e')))
                have kw := kept_setB9 kw hge5 (.int .i64 pk) (.string pn.u) (.string pn.l) (.string pn.p) (.slice pbA pbn pbc) (.slice paA pan pac) (.string pt) (.string pg) (.slice pkA pkn pkc)
                change K _ (setB9 wc g5 (.int .i64 pk) (.string pn.u) (.string pn.l) (.string pn.p) (.slice pbA pbn pbc) (.slice paA pan pac) (.string pt) (.string pg) (.slice pkA pkn pkc))
                generalize (setB9 wc g5 (.int .i64 pk) (.string pn.u) (.string pn.l) (.string pn.p) (.slice pbA pbn pbc) (.slice paA pan pac) (.string pt) (.string pg) (.slice pkA pkn pkc)) = wc at B5 B6 pok qok kw ⊢
                clear gs y0 y1 y2 y3 y4 y5 y6 y7 y8 yf yl
                refine hK.out _ _ (by first | (with_reducible exact MK.out _ kw)) (fun hHeld => ?_)
                clear hK K
                try simp only [Act.put, List.setIfInBounds_toArray, List.set_cons_zero, List.set_cons_succ]
                refine wpAnyH_ready (rs := [7]) (by kernel_rfl) (by simp) ?_
                refine AllReadyH.cons (o := { dst := none, op := Op.store 36 (Operand.tmp 6) (Operand.tmp 14), type := 0, pos := "law.go:82", after := #[{ on := 5, ground := Ground.data }, { on := 3, ground := Ground.data }, { on := 6, ground := Ground.chain }, { on := 0, ground := Ground.phase }, { on := 1, ground := Ground.phase }, { on := 2, ground := Ground.phase }, { on := 3, ground := Ground.phase }, { on := 4, ground := Ground.phase }, { on := 5, ground := Ground.phase }, { on := 6, ground := Ground.phase }], guard := none }) rfl (fun K hK => ?stepag212) ?moreag212
                case stepag212 =>
                  obtain ⟨y0, y1, y2, y3, y4, y5, y6, y7, y8, yf, yl⟩ := blk_znd B6
                  go_simp
                  have gs := grown_setB9 wc g6 (.int .i64 qk) (.string qn.u) (.string qn.l) (.string qn.p) (.slice qbA qbn qbc) (.slice qaA qan qac) (.string qt) (.string qg) (.slice qkA qkn qkc)
                  replace B6 := blk_setB9 B6 (.int .i64 qk) (.string qn.u) (.string qn.l) (.string qn.p) (.slice qbA qbn qbc) (.slice qaA qan qac) (.string qt) (.string qg) (.slice qkA qkn qkc)
                  replace B5 := B5.grown gs (by intro e'; injection e' with e'; omega)
                  replace pok := pok.grown gs (po6.mono (fun b hb e' => hb (by injection e')))
                  replace qok := qok.grown gs (qo6.mono (fun b hb e' => hb (by injection e')))
                  have kw := kept_setB9 kw hge6 (.int .i64 qk) (.string qn.u) (.string qn.l) (.string qn.p) (.slice qbA qbn qbc) (.slice qaA qan qac) (.string qt) (.string qg) (.slice qkA qkn qkc)
                  change K _ (setB9 wc g6 (.int .i64 qk) (.string qn.u) (.string qn.l) (.string qn.p) (.slice qbA qbn qbc) (.slice qaA qan qac) (.string qt) (.string qg) (.slice qkA qkn qkc))
                  generalize (setB9 wc g6 (.int .i64 qk) (.string qn.u) (.string qn.l) (.string qn.p) (.slice qbA qbn qbc) (.slice qaA qan qac) (.string qt) (.string qg) (.slice qkA qkn qkc)) = wc at B5 B6 pok qok kw ⊢
                  clear gs y0 y1 y2 y3 y4 y5 y6 y7 y8 yf yl
                  refine hK.out _ _ (by first | (with_reducible exact MK.out _ kw)) (fun hHeld => ?_)
                  clear hK K
                  try simp only [Act.put, List.setIfInBounds_toArray, List.set_cons_zero, List.set_cons_succ]
                  refine wpAnyH_done (by kernel_rfl) ?_ _
                  go_wp2_with fail
                  go_meet
                  exact ⟨g5, g6, (Nd.mk pk pn pbA pbn pbc pbs paA pan pac pal pt pg pkA pkn pkc pks), (Nd.mk qk qn qbA qbn qbc qbs qaA qan qac qal qt qg qkA qkn qkc qks), rfl, rfl, by rw [Nd.arr_mk]; exact B5, by rw [Nd.arr_mk]; exact B6, pok, ptr.trans Z.out.2.1, qok, qtr.trans Z.out.2.2.2, kw⟩
                exact AllReadyH.nil
              exact AllReadyH.nil
            exact AllReadyH.nil
          exact AllReadyH.nil
        refine AllReadyH.cons (o := { dst := some 5, op := Op.alloc 36, type := 0, pos := "law.go:82", after := #[], guard := none }) rfl (fun K hK => ?stepag213) ?moreag213
        case stepag213 =>
          go_simp
          first
          | (have B5 : Blk (wc.alloc (.cells znd 36)) wc.heap.size znd 36 := Blk.new wc znd _
             have ka := (Kept.refl wc).alloc (.cells znd 36)
             obtain ⟨g5, hg5⟩ : ∃ g, wc.heap.size = g := ⟨_, rfl⟩
             have hge5 : w3.heap.size ≤ g5 := by rw [← hg5]; exact kw.size
             try (have hne56 := ne_of_lt5 B6.lt hg5)
             try (have po5 := out_ne_of_lt pok hg5)
             try (have qo5 := out_ne_of_lt qok hg5)
             change K _ (wc.alloc (.cells znd 36))
             rw [hg5] at B5 ⊢
             clear hg5
             generalize wc.alloc (.cells znd 36) = wc at B5 ka ⊢
             try (replace B6 := B6.kept ka)
             try (replace pok := pok.kept ka)
             try (replace qok := qok.kept ka)
             have kw := kw.trans ka)
          | (have B5 : Blk (w3.drew.alloc (.cells znd 36)) w3.heap.size znd 36 := Blk.new w3.drew znd _
             have ka := (Kept.refl w3.drew).alloc (.cells znd 36)
             obtain ⟨g5, hg5⟩ : ∃ g, w3.heap.size = g := ⟨_, rfl⟩
             have hge5 : w3.heap.size ≤ g5 := by rw [← hg5]; exact kw.size
             try (have hne56 := ne_of_lt5 B6.lt hg5)
             try (have po5 := out_ne_of_lt pok hg5)
             try (have qo5 := out_ne_of_lt qok hg5)
             change K _ (w3.drew.alloc (.cells znd 36))
             rw [hg5] at B5 ⊢
             clear hg5
             generalize w3.drew.alloc (.cells znd 36) = wc at B5 ka ⊢
             try (replace B6 := B6.kept ka)
             try (replace pok := pok.kept ka)
             try (replace qok := qok.kept ka)
             have kw := kw.trans ka)
          refine hK.out _ _ (by first | (with_reducible exact MK.out _ kw)) (fun hHeld => ?_)
          clear hK K
          try simp only [Act.put, List.setIfInBounds_toArray, List.set_cons_zero, List.set_cons_succ]
          refine wpAnyH_ready (rs := [3, 5]) (by kernel_rfl) (by simp) ?_
          refine AllReadyH.cons (o := { dst := some 14, op := Op.call { callee := Callee.value (Operand.func 9), args := #[Operand.tmp 13], argTypes := #[28] }, type := 36, pos := "law.go:82", after := #[{ on := 2, ground := Ground.data }, { on := 1, ground := Ground.chain }], guard := none }) rfl (fun K hK => ?stepag214) ?moreag214
          case stepag214 =>
            go_simp
            go_at_call 9
            refine (OU.out _ kw).mono ?_
            rintro e wc ⟨q, rfl, qok, qtr, qout, ka⟩
            obtain ⟨qk, qn, qbA, qbn, qbc, qbs, qaA, qan, qac, qal, qt, qg, qkA, qkn, qkc, qks⟩ := q
            try (have qo5 := out_ne_of_ge qout B5.lt)
            try (have qo6 := out_ne_of_ge qout B6.lt)
            try (replace B5 := B5.kept ka)
            try (replace B6 := B6.kept ka)
            try (replace pok := pok.kept ka)
            have kw := kw.trans ka
            rw [Nd.val_mk]
            go_wp2_with fail
            refine hK.out _ _ (by first | (with_reducible exact MK.out _ kw)) (fun hHeld => ?_)
            clear hK K
            try simp only [Act.put, List.setIfInBounds_toArray, List.set_cons_zero, List.set_cons_succ]
            refine wpAnyH_ready (rs := [5]) (by kernel_rfl) (by simp) ?_
            refine AllReadyH.cons (o := { dst := some 6, op := Op.alloc 36, type := 0, pos := "law.go:82", after := #[], guard := none }) rfl (fun K hK => ?stepag215) ?moreag215
            case stepag215 =>
              go_simp
              first
              | (have B6 : Blk (wc.alloc (.cells znd 36)) wc.heap.size znd 36 := Blk.new wc znd _
                 have ka := (Kept.refl wc).alloc (.cells znd 36)
                 obtain ⟨g6, hg6⟩ : ∃ g, wc.heap.size = g := ⟨_, rfl⟩
                 have hge6 : w3.heap.size ≤ g6 := by rw [← hg6]; exact kw.size
                 try (have hne56 := ne_of_lt6 B5.lt hg6)
                 try (have po6 := out_ne_of_lt pok hg6)
                 try (have qo6 := out_ne_of_lt qok hg6)
                 change K _ (wc.alloc (.cells znd 36))
                 rw [hg6] at B6 ⊢
                 clear hg6
                 generalize wc.alloc (.cells znd 36) = wc at B6 ka ⊢
                 try (replace B5 := B5.kept ka)
                 try (replace pok := pok.kept ka)
                 try (replace qok := qok.kept ka)
                 have kw := kw.trans ka)
              | (have B6 : Blk (w3.drew.alloc (.cells znd 36)) w3.heap.size znd 36 := Blk.new w3.drew znd _
                 have ka := (Kept.refl w3.drew).alloc (.cells znd 36)
                 obtain ⟨g6, hg6⟩ : ∃ g, w3.heap.size = g := ⟨_, rfl⟩
                 have hge6 : w3.heap.size ≤ g6 := by rw [← hg6]; exact kw.size
                 try (have hne56 := ne_of_lt6 B5.lt hg6)
                 try (have po6 := out_ne_of_lt pok hg6)
                 try (have qo6 := out_ne_of_lt qok hg6)
                 change K _ (w3.drew.alloc (.cells znd 36))
                 rw [hg6] at B6 ⊢
                 clear hg6
                 generalize w3.drew.alloc (.cells znd 36) = wc at B6 ka ⊢
                 try (replace B5 := B5.kept ka)
                 try (replace pok := pok.kept ka)
                 try (replace qok := qok.kept ka)
                 have kw := kw.trans ka)
              refine hK.out _ _ (by first | (with_reducible exact MK.out _ kw)) (fun hHeld => ?_)
              clear hK K
              try simp only [Act.put, List.setIfInBounds_toArray, List.set_cons_zero, List.set_cons_succ]
              refine wpAnyH_ready (rs := [6]) (by kernel_rfl) (by simp) ?_
              refine AllReadyH.cons (o := { dst := none, op := Op.store 36 (Operand.tmp 5) (Operand.tmp 12), type := 0, pos := "law.go:82", after := #[{ on := 4, ground := Ground.data }, { on := 1, ground := Ground.data }, { on := 3, ground := Ground.chain }, { on := 0, ground := Ground.phase }, { on := 1, ground := Ground.phase }, { on := 2, ground := Ground.textOnly Departure.lateStores }, { on := 3, ground := Ground.textOnly Departure.lateStoresUnsure }, { on := 4, ground := Ground.phase }, { on := 5, ground := Ground.phase }], guard := none }) rfl (fun K hK => ?stepag216) ?moreag216
              case stepag216 =>
                obtain ⟨y0, y1, y2, y3, y4, y5, y6, y7, y8, yf, yl⟩ := blk_znd B5
                go_simp
                have gs := grown_setB9 wc g5 (.int .i64 pk) (.string pn.u) (.string pn.l) (.string pn.p) (.slice pbA pbn pbc) (.slice paA pan pac) (.string pt) (.string pg) (.slice pkA pkn pkc)
                replace B5 := blk_setB9 B5 (.int .i64 pk) (.string pn.u) (.string pn.l) (.string pn.p) (.slice pbA pbn pbc) (.slice paA pan pac) (.string pt) (.string pg) (.slice pkA pkn pkc)
                replace B6 := B6.grown gs (by intro e'; injection e' with e'; omega)
                replace pok := pok.grown gs (po5.mono (fun b hb e' => hb (by injection e')))
                replace qok := qok.grown gs (qo5.mono (fun b hb e' => hb (by injection e')))
                have kw := kept_setB9 kw hge5 (.int .i64 pk) (.string pn.u) (.string pn.l) (.string pn.p) (.slice pbA pbn pbc) (.slice paA pan pac) (.string pt) (.string pg) (.slice pkA pkn pkc)
                change K _ (setB9 wc g5 (.int .i64 pk) (.string pn.u) (.string pn.l) (.string pn.p) (.slice pbA pbn pbc) (.slice paA pan pac) (.string pt) (.string pg) (.slice pkA pkn pkc))
                generalize (setB9 wc g5 (.int .i64 pk) (.string pn.u) (.string pn.l) (.string pn.p) (.slice pbA pbn pbc) (.slice paA pan pac) (.string pt) (.string pg) (.slice pkA pkn pkc)) = wc at B5 B6 pok qok kw ⊢
                clear gs y0 y1 y2 y3 y4 y5 y6 y7 y8 yf yl
                refine hK.out _ _ (by first | (with_reducible exact MK.out _ kw)) (fun hHeld => ?_)
                clear hK K
                try simp only [Act.put, List.setIfInBounds_toArray, List.set_cons_zero, List.set_cons_succ]
                refine wpAnyH_ready (rs := [7]) (by kernel_rfl) (by simp) ?_
                refine AllReadyH.cons (o := { dst := none, op := Op.store 36 (Operand.tmp 6) (Operand.tmp 14), type := 0, pos := "law.go:82", after := #[{ on := 5, ground := Ground.data }, { on := 3, ground := Ground.data }, { on := 6, ground := Ground.chain }, { on := 0, ground := Ground.phase }, { on := 1, ground := Ground.phase }, { on := 2, ground := Ground.phase }, { on := 3, ground := Ground.phase }, { on := 4, ground := Ground.phase }, { on := 5, ground := Ground.phase }, { on := 6, ground := Ground.phase }], guard := none }) rfl (fun K hK => ?stepag217) ?moreag217
                case stepag217 =>
                  obtain ⟨y0, y1, y2, y3, y4, y5, y6, y7, y8, yf, yl⟩ := blk_znd B6
                  go_simp
                  have gs := grown_setB9 wc g6 (.int .i64 qk) (.string qn.u) (.string qn.l) (.string qn.p) (.slice qbA qbn qbc) (.slice qaA qan qac) (.string qt) (.string qg) (.slice qkA qkn qkc)
                  replace B6 := blk_setB9 B6 (.int .i64 qk) (.string qn.u) (.string qn.l) (.string qn.p) (.slice qbA qbn qbc) (.slice qaA qan qac) (.string qt) (.string qg) (.slice qkA qkn qkc)
                  replace B5 := B5.grown gs (by intro e'; injection e' with e'; omega)
                  replace pok := pok.grown gs (po6.mono (fun b hb e' => hb (by injection e')))
                  replace qok := qok.grown gs (qo6.mono (fun b hb e' => hb (by injection e')))
                  have kw := kept_setB9 kw hge6 (.int .i64 qk) (.string qn.u) (.string qn.l) (.string qn.p) (.slice qbA qbn qbc) (.slice qaA qan qac) (.string qt) (.string qg) (.slice qkA qkn qkc)
                  change K _ (setB9 wc g6 (.int .i64 qk) (.string qn.u) (.string qn.l) (.string qn.p) (.slice qbA qbn qbc) (.slice qaA qan qac) (.string qt) (.string qg) (.slice qkA qkn qkc))
                  generalize (setB9 wc g6 (.int .i64 qk) (.string qn.u) (.string qn.l) (.string qn.p) (.slice qbA qbn qbc) (.slice qaA qan qac) (.string qt) (.string qg) (.slice qkA qkn qkc)) = wc at B5 B6 pok qok kw ⊢
                  clear gs y0 y1 y2 y3 y4 y5 y6 y7 y8 yf yl
                  refine hK.out _ _ (by first | (with_reducible exact MK.out _ kw)) (fun hHeld => ?_)
                  clear hK K
                  try simp only [Act.put, List.setIfInBounds_toArray, List.set_cons_zero, List.set_cons_succ]
                  refine wpAnyH_done (by kernel_rfl) ?_ _
                  go_wp2_with fail
                  go_meet
                  exact ⟨g5, g6, (Nd.mk pk pn pbA pbn pbc pbs paA pan pac pal pt pg pkA pkn pkc pks), (Nd.mk qk qn qbA qbn qbc qbs qaA qan qac qal qt qg qkA qkn qkc qks), rfl, rfl, by rw [Nd.arr_mk]; exact B5, by rw [Nd.arr_mk]; exact B6, pok, ptr.trans Z.out.2.1, qok, qtr.trans Z.out.2.2.2, kw⟩
                exact AllReadyH.nil
              exact AllReadyH.nil
            exact AllReadyH.nil
          refine AllReadyH.cons (o := { dst := some 6, op := Op.alloc 36, type := 0, pos := "law.go:82", after := #[], guard := none }) rfl (fun K hK => ?stepag218) ?moreag218
          case stepag218 =>
            go_simp
            first
            | (have B6 : Blk (wc.alloc (.cells znd 36)) wc.heap.size znd 36 := Blk.new wc znd _
               have ka := (Kept.refl wc).alloc (.cells znd 36)
               obtain ⟨g6, hg6⟩ : ∃ g, wc.heap.size = g := ⟨_, rfl⟩
               have hge6 : w3.heap.size ≤ g6 := by rw [← hg6]; exact kw.size
               try (have hne56 := ne_of_lt6 B5.lt hg6)
               try (have po6 := out_ne_of_lt pok hg6)
               try (have qo6 := out_ne_of_lt qok hg6)
               change K _ (wc.alloc (.cells znd 36))
               rw [hg6] at B6 ⊢
               clear hg6
               generalize wc.alloc (.cells znd 36) = wc at B6 ka ⊢
               try (replace B5 := B5.kept ka)
               try (replace pok := pok.kept ka)
               try (replace qok := qok.kept ka)
               have kw := kw.trans ka)
            | (have B6 : Blk (w3.drew.alloc (.cells znd 36)) w3.heap.size znd 36 := Blk.new w3.drew znd _
               have ka := (Kept.refl w3.drew).alloc (.cells znd 36)
               obtain ⟨g6, hg6⟩ : ∃ g, w3.heap.size = g := ⟨_, rfl⟩
               have hge6 : w3.heap.size ≤ g6 := by rw [← hg6]; exact kw.size
               try (have hne56 := ne_of_lt6 B5.lt hg6)
               try (have po6 := out_ne_of_lt pok hg6)
               try (have qo6 := out_ne_of_lt qok hg6)
               change K _ (w3.drew.alloc (.cells znd 36))
               rw [hg6] at B6 ⊢
               clear hg6
               generalize w3.drew.alloc (.cells znd 36) = wc at B6 ka ⊢
               try (replace B5 := B5.kept ka)
               try (replace pok := pok.kept ka)
               try (replace qok := qok.kept ka)
               have kw := kw.trans ka)
            refine hK.out _ _ (by first | (with_reducible exact MK.out _ kw)) (fun hHeld => ?_)
            clear hK K
            try simp only [Act.put, List.setIfInBounds_toArray, List.set_cons_zero, List.set_cons_succ]
            refine wpAnyH_ready (rs := [3]) (by kernel_rfl) (by simp) ?_
            refine AllReadyH.cons (o := { dst := some 14, op := Op.call { callee := Callee.value (Operand.func 9), args := #[Operand.tmp 13], argTypes := #[28] }, type := 36, pos := "law.go:82", after := #[{ on := 2, ground := Ground.data }, { on := 1, ground := Ground.chain }], guard := none }) rfl (fun K hK => ?stepag219) ?moreag219
            case stepag219 =>
              go_simp
              go_at_call 9
              refine (OU.out _ kw).mono ?_
              rintro e wc ⟨q, rfl, qok, qtr, qout, ka⟩
              obtain ⟨qk, qn, qbA, qbn, qbc, qbs, qaA, qan, qac, qal, qt, qg, qkA, qkn, qkc, qks⟩ := q
              try (have qo5 := out_ne_of_ge qout B5.lt)
              try (have qo6 := out_ne_of_ge qout B6.lt)
              try (replace B5 := B5.kept ka)
              try (replace B6 := B6.kept ka)
              try (replace pok := pok.kept ka)
              have kw := kw.trans ka
              rw [Nd.val_mk]
              go_wp2_with fail
              refine hK.out _ _ (by first | (with_reducible exact MK.out _ kw)) (fun hHeld => ?_)
              clear hK K
              try simp only [Act.put, List.setIfInBounds_toArray, List.set_cons_zero, List.set_cons_succ]
              refine wpAnyH_ready (rs := [6]) (by kernel_rfl) (by simp) ?_
              refine AllReadyH.cons (o := { dst := none, op := Op.store 36 (Operand.tmp 5) (Operand.tmp 12), type := 0, pos := "law.go:82", after := #[{ on := 4, ground := Ground.data }, { on := 1, ground := Ground.data }, { on := 3, ground := Ground.chain }, { on := 0, ground := Ground.phase }, { on := 1, ground := Ground.phase }, { on := 2, ground := Ground.textOnly Departure.lateStores }, { on := 3, ground := Ground.textOnly Departure.lateStoresUnsure }, { on := 4, ground := Ground.phase }, { on := 5, ground := Ground.phase }], guard := none }) rfl (fun K hK => ?stepag220) ?moreag220
              case stepag220 =>
                obtain ⟨y0, y1, y2, y3, y4, y5, y6, y7, y8, yf, yl⟩ := blk_znd B5
                go_simp
                have gs := grown_setB9 wc g5 (.int .i64 pk) (.string pn.u) (.string pn.l) (.string pn.p) (.slice pbA pbn pbc) (.slice paA pan pac) (.string pt) (.string pg) (.slice pkA pkn pkc)
                replace B5 := blk_setB9 B5 (.int .i64 pk) (.string pn.u) (.string pn.l) (.string pn.p) (.slice pbA pbn pbc) (.slice paA pan pac) (.string pt) (.string pg) (.slice pkA pkn pkc)
                replace B6 := B6.grown gs (by intro e'; injection e' with e'; omega)
                replace pok := pok.grown gs (po5.mono (fun b hb e' => hb (by injection e')))
                replace qok := qok.grown gs (qo5.mono (fun b hb e' => hb (by injection e')))
                have kw := kept_setB9 kw hge5 (.int .i64 pk) (.string pn.u) (.string pn.l) (.string pn.p) (.slice pbA pbn pbc) (.slice paA pan pac) (.string pt) (.string pg) (.slice pkA pkn pkc)
                change K _ (setB9 wc g5 (.int .i64 pk) (.string pn.u) (.string pn.l) (.string pn.p) (.slice pbA pbn pbc) (.slice paA pan pac) (.string pt) (.string pg) (.slice pkA pkn pkc))
                generalize (setB9 wc g5 (.int .i64 pk) (.string pn.u) (.string pn.l) (.string pn.p) (.slice pbA pbn pbc) (.slice paA pan pac) (.string pt) (.string pg) (.slice pkA pkn pkc)) = wc at B5 B6 pok qok kw ⊢
                clear gs y0 y1 y2 y3 y4 y5 y6 y7 y8 yf yl
                refine hK.out _ _ (by first | (with_reducible exact MK.out _ kw)) (fun hHeld => ?_)
                clear hK K
                try simp only [Act.put, List.setIfInBounds_toArray, List.set_cons_zero, List.set_cons_succ]
                refine wpAnyH_ready (rs := [7]) (by kernel_rfl) (by simp) ?_
                refine AllReadyH.cons (o := { dst := none, op := Op.store 36 (Operand.tmp 6) (Operand.tmp 14), type := 0, pos := "law.go:82", after := #[{ on := 5, ground := Ground.data }, { on := 3, ground := Ground.data }, { on := 6, ground := Ground.chain }, { on := 0, ground := Ground.phase }, { on := 1, ground := Ground.phase }, { on := 2, ground := Ground.phase }, { on := 3, ground := Ground.phase }, { on := 4, ground := Ground.phase }, { on := 5, ground := Ground.phase }, { on := 6, ground := Ground.phase }], guard := none }) rfl (fun K hK => ?stepag221) ?moreag221
                case stepag221 =>
                  obtain ⟨y0, y1, y2, y3, y4, y5, y6, y7, y8, yf, yl⟩ := blk_znd B6
                  go_simp
                  have gs := grown_setB9 wc g6 (.int .i64 qk) (.string qn.u) (.string qn.l) (.string qn.p) (.slice qbA qbn qbc) (.slice qaA qan qac) (.string qt) (.string qg) (.slice qkA qkn qkc)
                  replace B6 := blk_setB9 B6 (.int .i64 qk) (.string qn.u) (.string qn.l) (.string qn.p) (.slice qbA qbn qbc) (.slice qaA qan qac) (.string qt) (.string qg) (.slice qkA qkn qkc)
                  replace B5 := B5.grown gs (by intro e'; injection e' with e'; omega)
                  replace pok := pok.grown gs (po6.mono (fun b hb e' => hb (by injection e')))
                  replace qok := qok.grown gs (qo6.mono (fun b hb e' => hb (by injection e')))
                  have kw := kept_setB9 kw hge6 (.int .i64 qk) (.string qn.u) (.string qn.l) (.string qn.p) (.slice qbA qbn qbc) (.slice qaA qan qac) (.string qt) (.string qg) (.slice qkA qkn qkc)
                  change K _ (setB9 wc g6 (.int .i64 qk) (.string qn.u) (.string qn.l) (.string qn.p) (.slice qbA qbn qbc) (.slice qaA qan qac) (.string qt) (.string qg) (.slice qkA qkn qkc))
                  generalize (setB9 wc g6 (.int .i64 qk) (.string qn.u) (.string qn.l) (.string qn.p) (.slice qbA qbn qbc) (.slice qaA qan qac) (.string qt) (.string qg) (.slice qkA qkn qkc)) = wc at B5 B6 pok qok kw ⊢
                  clear gs y0 y1 y2 y3 y4 y5 y6 y7 y8 yf yl
                  refine hK.out _ _ (by first | (with_reducible exact MK.out _ kw)) (fun hHeld => ?_)
                  clear hK K
                  try simp only [Act.put, List.setIfInBounds_toArray, List.set_cons_zero, List.set_cons_succ]
                  refine wpAnyH_done (by kernel_rfl) ?_ _
                  go_wp2_with fail
                  go_meet
                  exact ⟨g5, g6, (Nd.mk pk pn pbA pbn pbc pbs paA pan pac pal pt pg pkA pkn pkc pks), (Nd.mk qk qn qbA qbn qbc qbs qaA qan qac qal qt qg qkA qkn qkc qks), rfl, rfl, by rw [Nd.arr_mk]; exact B5, by rw [Nd.arr_mk]; exact B6, pok, ptr.trans Z.out.2.1, qok, qtr.trans Z.out.2.2.2, kw⟩
                exact AllReadyH.nil
              exact AllReadyH.nil
            exact AllReadyH.nil
          exact AllReadyH.nil
        refine AllReadyH.cons (o := { dst := some 6, op := Op.alloc 36, type := 0, pos := "law.go:82", after := #[], guard := none }) rfl (fun K hK => ?stepag222) ?moreag222
        case stepag222 =>
          go_simp
          first
          | (have B6 : Blk (wc.alloc (.cells znd 36)) wc.heap.size znd 36 := Blk.new wc znd _
             have ka := (Kept.refl wc).alloc (.cells znd 36)
             obtain ⟨g6, hg6⟩ : ∃ g, wc.heap.size = g := ⟨_, rfl⟩
             have hge6 : w3.heap.size ≤ g6 := by rw [← hg6]; exact kw.size
             try (have hne56 := ne_of_lt6 B5.lt hg6)
             try (have po6 := out_ne_of_lt pok hg6)
             try (have qo6 := out_ne_of_lt qok hg6)
             change K _ (wc.alloc (.cells znd 36))
             rw [hg6] at B6 ⊢
             clear hg6
             generalize wc.alloc (.cells znd 36) = wc at B6 ka ⊢
             try (replace B5 := B5.kept ka)
             try (replace pok := pok.kept ka)
             try (replace qok := qok.kept ka)
             have kw := kw.trans ka)
          | (have B6 : Blk (w3.drew.alloc (.cells znd 36)) w3.heap.size znd 36 := Blk.new w3.drew znd _
             have ka := (Kept.refl w3.drew).alloc (.cells znd 36)
             obtain ⟨g6, hg6⟩ : ∃ g, w3.heap.size = g := ⟨_, rfl⟩
             have hge6 : w3.heap.size ≤ g6 := by rw [← hg6]; exact kw.size
             try (have hne56 := ne_of_lt6 B5.lt hg6)
             try (have po6 := out_ne_of_lt pok hg6)
             try (have qo6 := out_ne_of_lt qok hg6)
             change K _ (w3.drew.alloc (.cells znd 36))
             rw [hg6] at B6 ⊢
             clear hg6
             generalize w3.drew.alloc (.cells znd 36) = wc at B6 ka ⊢
             try (replace B5 := B5.kept ka)
             try (replace pok := pok.kept ka)
             try (replace qok := qok.kept ka)
             have kw := kw.trans ka)
          refine hK.out _ _ (by first | (with_reducible exact MK.out _ kw)) (fun hHeld => ?_)
          clear hK K
          try simp only [Act.put, List.setIfInBounds_toArray, List.set_cons_zero, List.set_cons_succ]
          refine wpAnyH_ready (rs := [3, 4]) (by kernel_rfl) (by simp) ?_
          refine AllReadyH.cons (o := { dst := some 14, op := Op.call { callee := Callee.value (Operand.func 9), args := #[Operand.tmp 13], argTypes := #[28] }, type := 36, pos := "law.go:82", after := #[{ on := 2, ground := Ground.data }, { on := 1, ground := Ground.chain }], guard := none }) rfl (fun K hK => ?stepag223) ?moreag223
          case stepag223 =>
            go_simp
            go_at_call 9
            refine (OU.out _ kw).mono ?_
            rintro e wc ⟨q, rfl, qok, qtr, qout, ka⟩
            obtain ⟨qk, qn, qbA, qbn, qbc, qbs, qaA, qan, qac, qal, qt, qg, qkA, qkn, qkc, qks⟩ := q
            try (have qo5 := out_ne_of_ge qout B5.lt)
            try (have qo6 := out_ne_of_ge qout B6.lt)
            try (replace B5 := B5.kept ka)
            try (replace B6 := B6.kept ka)
            try (replace pok := pok.kept ka)
            have kw := kw.trans ka
            rw [Nd.val_mk]
            go_wp2_with fail
            refine hK.out _ _ (by first | (with_reducible exact MK.out _ kw)) (fun hHeld => ?_)
            clear hK K
            try simp only [Act.put, List.setIfInBounds_toArray, List.set_cons_zero, List.set_cons_succ]
            refine wpAnyH_ready (rs := [4]) (by kernel_rfl) (by simp) ?_
            refine AllReadyH.cons (o := { dst := some 5, op := Op.alloc 36, type := 0, pos := "law.go:82", after := #[], guard := none }) rfl (fun K hK => ?stepag224) ?moreag224
            case stepag224 =>
              go_simp
              first
              | (have B5 : Blk (wc.alloc (.cells znd 36)) wc.heap.size znd 36 := Blk.new wc znd _
                 have ka := (Kept.refl wc).alloc (.cells znd 36)
                 obtain ⟨g5, hg5⟩ : ∃ g, wc.heap.size = g := ⟨_, rfl⟩
                 have hge5 : w3.heap.size ≤ g5 := by rw [← hg5]; exact kw.size
                 try (have hne56 := ne_of_lt5 B6.lt hg5)
                 try (have po5 := out_ne_of_lt pok hg5)
                 try (have qo5 := out_ne_of_lt qok hg5)
                 change K _ (wc.alloc (.cells znd 36))
                 rw [hg5] at B5 ⊢
                 clear hg5
                 generalize wc.alloc (.cells znd 36) = wc at B5 ka ⊢
                 try (replace B6 := B6.kept ka)
                 try (replace pok := pok.kept ka)
                 try (replace qok := qok.kept ka)
                 have kw := kw.trans ka)
              | (have B5 : Blk (w3.drew.alloc (.cells znd 36)) w3.heap.size znd 36 := Blk.new w3.drew znd _
                 have ka := (Kept.refl w3.drew).alloc (.cells znd 36)
                 obtain ⟨g5, hg5⟩ : ∃ g, w3.heap.size = g := ⟨_, rfl⟩
                 have hge5 : w3.heap.size ≤ g5 := by rw [← hg5]; exact kw.size
                 try (have hne56 := ne_of_lt5 B6.lt hg5)
                 try (have po5 := out_ne_of_lt pok hg5)
                 try (have qo5 := out_ne_of_lt qok hg5)
                 change K _ (w3.drew.alloc (.cells znd 36))
                 rw [hg5] at B5 ⊢
                 clear hg5
                 generalize w3.drew.alloc (.cells znd 36) = wc at B5 ka ⊢
                 try (replace B6 := B6.kept ka)
                 try (replace pok := pok.kept ka)
                 try (replace qok := qok.kept ka)
                 have kw := kw.trans ka)
              refine hK.out _ _ (by first | (with_reducible exact MK.out _ kw)) (fun hHeld => ?_)
              clear hK K
              try simp only [Act.put, List.setIfInBounds_toArray, List.set_cons_zero, List.set_cons_succ]
              refine wpAnyH_ready (rs := [6]) (by kernel_rfl) (by simp) ?_
              refine AllReadyH.cons (o := { dst := none, op := Op.store 36 (Operand.tmp 5) (Operand.tmp 12), type := 0, pos := "law.go:82", after := #[{ on := 4, ground := Ground.data }, { on := 1, ground := Ground.data }, { on := 3, ground := Ground.chain }, { on := 0, ground := Ground.phase }, { on := 1, ground := Ground.phase }, { on := 2, ground := Ground.textOnly Departure.lateStores }, { on := 3, ground := Ground.textOnly Departure.lateStoresUnsure }, { on := 4, ground := Ground.phase }, { on := 5, ground := Ground.phase }], guard := none }) rfl (fun K hK => ?stepag225) ?moreag225
              case stepag225 =>
                obtain ⟨y0, y1, y2, y3, y4, y5, y6, y7, y8, yf, yl⟩ := blk_znd B5
                go_simp
                have gs := grown_setB9 wc g5 (.int .i64 pk) (.string pn.u) (.string pn.l) (.string pn.p) (.slice pbA pbn pbc) (.slice paA pan pac) (.string pt) (.string pg) (.slice pkA pkn pkc)
                replace B5 := blk_setB9 B5 (.int .i64 pk) (.string pn.u) (.string pn.l) (.string pn.p) (.slice pbA pbn pbc) (.slice paA pan pac) (.string pt) (.string pg) (.slice pkA pkn pkc)
                replace B6 := B6.grown gs (by intro e'; injection e' with e'; omega)
                replace pok := pok.grown gs (po5.mono (fun b hb e' => hb (by injection e')))
                replace qok := qok.grown gs (qo5.mono (fun b hb e' => hb (by injection e')))
                have kw := kept_setB9 kw hge5 (.int .i64 pk) (.string pn.u) (.string pn.l) (.string pn.p) (.slice pbA pbn pbc) (.slice paA pan pac) (.string pt) (.string pg) (.slice pkA pkn pkc)
                change K _ (setB9 wc g5 (.int .i64 pk) (.string pn.u) (.string pn.l) (.string pn.p) (.slice pbA pbn pbc) (.slice paA pan pac) (.string pt) (.string pg) (.slice pkA pkn pkc))
                generalize (setB9 wc g5 (.int .i64 pk) (.string pn.u) (.string pn.l) (.string pn.p) (.slice pbA pbn pbc) (.slice paA pan pac) (.string pt) (.string pg) (.slice pkA pkn pkc)) = wc at B5 B6 pok qok kw ⊢
                clear gs y0 y1 y2 y3 y4 y5 y6 y7 y8 yf yl
                refine hK.out _ _ (by first | (with_reducible exact MK.out _ kw)) (fun hHeld => ?_)
                clear hK K
                try simp only [Act.put, List.setIfInBounds_toArray, List.set_cons_zero, List.set_cons_succ]
                refine wpAnyH_ready (rs := [7]) (by kernel_rfl) (by simp) ?_
                refine AllReadyH.cons (o := { dst := none, op := Op.store 36 (Operand.tmp 6) (Operand.tmp 14), type := 0, pos := "law.go:82", after := #[{ on := 5, ground := Ground.data }, { on := 3, ground := Ground.data }, { on := 6, ground := Ground.chain }, { on := 0, ground := Ground.phase }, { on := 1, ground := Ground.phase }, { on := 2, ground := Ground.phase }, { on := 3, ground := Ground.phase }, { on := 4, ground := Ground.phase }, { on := 5, ground := Ground.phase }, { on := 6, ground := Ground.phase }], guard := none }) rfl (fun K hK => ?stepag226) ?moreag226
                case stepag226 =>
                  obtain ⟨y0, y1, y2, y3, y4, y5, y6, y7, y8, yf, yl⟩ := blk_znd B6
                  go_simp
                  have gs := grown_setB9 wc g6 (.int .i64 qk) (.string qn.u) (.string qn.l) (.string qn.p) (.slice qbA qbn qbc) (.slice qaA qan qac) (.string qt) (.string qg) (.slice qkA qkn qkc)
                  replace B6 := blk_setB9 B6 (.int .i64 qk) (.string qn.u) (.string qn.l) (.string qn.p) (.slice qbA qbn qbc) (.slice qaA qan qac) (.string qt) (.string qg) (.slice qkA qkn qkc)
                  replace B5 := B5.grown gs (by intro e'; injection e' with e'; omega)
                  replace pok := pok.grown gs (po6.mono (fun b hb e' => hb (by injection e')))
                  replace qok := qok.grown gs (qo6.mono (fun b hb e' => hb (by injection e')))
                  have kw := kept_setB9 kw hge6 (.int .i64 qk) (.string qn.u) (.string qn.l) (.string qn.p) (.slice qbA qbn qbc) (.slice qaA qan qac) (.string qt) (.string qg) (.slice qkA qkn qkc)
                  change K _ (setB9 wc g6 (.int .i64 qk) (.string qn.u) (.string qn.l) (.string qn.p) (.slice qbA qbn qbc) (.slice qaA qan qac) (.string qt) (.string qg) (.slice qkA qkn qkc))
                  generalize (setB9 wc g6 (.int .i64 qk) (.string qn.u) (.string qn.l) (.string qn.p) (.slice qbA qbn qbc) (.slice qaA qan qac) (.string qt) (.string qg) (.slice qkA qkn qkc)) = wc at B5 B6 pok qok kw ⊢
                  clear gs y0 y1 y2 y3 y4 y5 y6 y7 y8 yf yl
                  refine hK.out _ _ (by first | (with_reducible exact MK.out _ kw)) (fun hHeld => ?_)
                  clear hK K
                  try simp only [Act.put, List.setIfInBounds_toArray, List.set_cons_zero, List.set_cons_succ]
                  refine wpAnyH_done (by kernel_rfl) ?_ _
                  go_wp2_with fail
                  go_meet
                  exact ⟨g5, g6, (Nd.mk pk pn pbA pbn pbc pbs paA pan pac pal pt pg pkA pkn pkc pks), (Nd.mk qk qn qbA qbn qbc qbs qaA qan qac qal qt qg qkA qkn qkc qks), rfl, rfl, by rw [Nd.arr_mk]; exact B5, by rw [Nd.arr_mk]; exact B6, pok, ptr.trans Z.out.2.1, qok, qtr.trans Z.out.2.2.2, kw⟩
                exact AllReadyH.nil
              exact AllReadyH.nil
            exact AllReadyH.nil
          refine AllReadyH.cons (o := { dst := some 5, op := Op.alloc 36, type := 0, pos := "law.go:82", after := #[], guard := none }) rfl (fun K hK => ?stepag227) ?moreag227
          case stepag227 =>
            go_simp
            first
            | (have B5 : Blk (wc.alloc (.cells znd 36)) wc.heap.size znd 36 := Blk.new wc znd _
               have ka := (Kept.refl wc).alloc (.cells znd 36)
               obtain ⟨g5, hg5⟩ : ∃ g, wc.heap.size = g := ⟨_, rfl⟩
               have hge5 : w3.heap.size ≤ g5 := by rw [← hg5]; exact kw.size
               try (have hne56 := ne_of_lt5 B6.lt hg5)
               try (have po5 := out_ne_of_lt pok hg5)
               try (have qo5 := out_ne_of_lt qok hg5)
               change K _ (wc.alloc (.cells znd 36))
               rw [hg5] at B5 ⊢
               clear hg5
               generalize wc.alloc (.cells znd 36) = wc at B5 ka ⊢
               try (replace B6 := B6.kept ka)
               try (replace pok := pok.kept ka)
               try (replace qok := qok.kept ka)
               have kw := kw.trans ka)
            | (have B5 : Blk (w3.drew.alloc (.cells znd 36)) w3.heap.size znd 36 := Blk.new w3.drew znd _
               have ka := (Kept.refl w3.drew).alloc (.cells znd 36)
               obtain ⟨g5, hg5⟩ : ∃ g, w3.heap.size = g := ⟨_, rfl⟩
               have hge5 : w3.heap.size ≤ g5 := by rw [← hg5]; exact kw.size
               try (have hne56 := ne_of_lt5 B6.lt hg5)
               try (have po5 := out_ne_of_lt pok hg5)
               try (have qo5 := out_ne_of_lt qok hg5)
               change K _ (w3.drew.alloc (.cells znd 36))
               rw [hg5] at B5 ⊢
               clear hg5
               generalize w3.drew.alloc (.cells znd 36) = wc at B5 ka ⊢
               try (replace B6 := B6.kept ka)
               try (replace pok := pok.kept ka)
               try (replace qok := qok.kept ka)
               have kw := kw.trans ka)
            refine hK.out _ _ (by first | (with_reducible exact MK.out _ kw)) (fun hHeld => ?_)
            clear hK K
            try simp only [Act.put, List.setIfInBounds_toArray, List.set_cons_zero, List.set_cons_succ]
            refine wpAnyH_ready (rs := [3]) (by kernel_rfl) (by simp) ?_
            refine AllReadyH.cons (o := { dst := some 14, op := Op.call { callee := Callee.value (Operand.func 9), args := #[Operand.tmp 13], argTypes := #[28] }, type := 36, pos := "law.go:82", after := #[{ on := 2, ground := Ground.data }, { on := 1, ground := Ground.chain }], guard := none }) rfl (fun K hK => ?stepag228) ?moreag228
            case stepag228 =>
              go_simp
              go_at_call 9
              refine (OU.out _ kw).mono ?_
              rintro e wc ⟨q, rfl, qok, qtr, qout, ka⟩
              obtain ⟨qk, qn, qbA, qbn, qbc, qbs, qaA, qan, qac, qal, qt, qg, qkA, qkn, qkc, qks⟩ := q
              try (have qo5 := out_ne_of_ge qout B5.lt)
              try (have qo6 := out_ne_of_ge qout B6.lt)
              try (replace B5 := B5.kept ka)
              try (replace B6 := B6.kept ka)
              try (replace pok := pok.kept ka)
              have kw := kw.trans ka
              rw [Nd.val_mk]
              go_wp2_with fail
              refine hK.out _ _ (by first | (with_reducible exact MK.out _ kw)) (fun hHeld => ?_)
              clear hK K
              try simp only [Act.put, List.setIfInBounds_toArray, List.set_cons_zero, List.set_cons_succ]
              refine wpAnyH_ready (rs := [6]) (by kernel_rfl) (by simp) ?_
              refine AllReadyH.cons (o := { dst := none, op := Op.store 36 (Operand.tmp 5) (Operand.tmp 12), type := 0, pos := "law.go:82", after := #[{ on := 4, ground := Ground.data }, { on := 1, ground := Ground.data }, { on := 3, ground := Ground.chain }, { on := 0, ground := Ground.phase }, { on := 1, ground := Ground.phase }, { on := 2, ground := Ground.textOnly Departure.lateStores }, { on := 3, ground := Ground.textOnly Departure.lateStoresUnsure }, { on := 4, ground := Ground.phase }, { on := 5, ground := Ground.phase }], guard := none }) rfl (fun K hK => ?stepag229) ?moreag229
              case stepag229 =>
                obtain ⟨y0, y1, y2, y3, y4, y5, y6, y7, y8, yf, yl⟩ := blk_znd B5
                go_simp
                have gs := grown_setB9 wc g5 (.int .i64 pk) (.string pn.u) (.string pn.l) (.string pn.p) (.slice pbA pbn pbc) (.slice paA pan pac) (.string pt) (.string pg) (.slice pkA pkn pkc)
                replace B5 := blk_setB9 B5 (.int .i64 pk) (.string pn.u) (.string pn.l) (.string pn.p) (.slice pbA pbn pbc) (.slice paA pan pac) (.string pt) (.string pg) (.slice pkA pkn pkc)
                replace B6 := B6.grown gs (by intro e'; injection e' with e'; omega)
                replace pok := pok.grown gs (po5.mono (fun b hb e' => hb (by injection e')))
                replace qok := qok.grown gs (qo5.mono (fun b hb e' => hb (by injection e')))
                have kw := kept_setB9 kw hge5 (.int .i64 pk) (.string pn.u) (.string pn.l) (.string pn.p) (.slice pbA pbn pbc) (.slice paA pan pac) (.string pt) (.string pg) (.slice pkA pkn pkc)
                change K _ (setB9 wc g5 (.int .i64 pk) (.string pn.u) (.string pn.l) (.string pn.p) (.slice pbA pbn pbc) (.slice paA pan pac) (.string pt) (.string pg) (.slice pkA pkn pkc))
                generalize (setB9 wc g5 (.int .i64 pk) (.string pn.u) (.string pn.l) (.string pn.p) (.slice pbA pbn pbc) (.slice paA pan pac) (.string pt) (.string pg) (.slice pkA pkn pkc)) = wc at B5 B6 pok qok kw ⊢
                clear gs y0 y1 y2 y3 y4 y5 y6 y7 y8 yf yl
                refine hK.out _ _ (by first | (with_reducible exact MK.out _ kw)) (fun hHeld => ?_)
                clear hK K
                try simp only [Act.put, List.setIfInBounds_toArray, List.set_cons_zero, List.set_cons_succ]
                refine wpAnyH_ready (rs := [7]) (by kernel_rfl) (by simp) ?_
                refine AllReadyH.cons (o := { dst := none, op := Op.store 36 (Operand.tmp 6) (Operand.tmp 14), type := 0, pos := "law.go:82", after := #[{ on := 5, ground := Ground.data }, { on := 3, ground := Ground.data }, { on := 6, ground := Ground.chain }, { on := 0, ground := Ground.phase }, { on := 1, ground := Ground.phase }, { on := 2, ground := Ground.phase }, { on := 3, ground := Ground.phase }, { on := 4, ground := Ground.phase }, { on := 5, ground := Ground.phase }, { on := 6, ground := Ground.phase }], guard := none }) rfl (fun K hK => ?stepag230) ?moreag230
                case stepag230 =>
                  obtain ⟨y0, y1, y2, y3, y4, y5, y6, y7, y8, yf, yl⟩ := blk_znd B6
                  go_simp
                  have gs := grown_setB9 wc g6 (.int .i64 qk) (.string qn.u) (.string qn.l) (.string qn.p) (.slice qbA qbn qbc) (.slice qaA qan qac) (.string qt) (.string qg) (.slice qkA qkn qkc)
                  replace B6 := blk_setB9 B6 (.int .i64 qk) (.string qn.u) (.string qn.l) (.string qn.p) (.slice qbA qbn qbc) (.slice qaA qan qac) (.string qt) (.string qg) (.slice qkA qkn qkc)
                  replace B5 := B5.grown gs (by intro e'; injection e' with e'; omega)
                  replace pok := pok.grown gs (po6.mono (fun b hb e' => hb (by injection e')))
                  replace qok := qok.grown gs (qo6.mono (fun b hb e' => hb (by injection e')))
                  have kw := kept_setB9 kw hge6 (.int .i64 qk) (.string qn.u) (.string qn.l) (.string qn.p) (.slice qbA qbn qbc) (.slice qaA qan qac) (.string qt) (.string qg) (.slice qkA qkn qkc)
                  change K _ (setB9 wc g6 (.int .i64 qk) (.string qn.u) (.string qn.l) (.string qn.p) (.slice qbA qbn qbc) (.slice qaA qan qac) (.string qt) (.string qg) (.slice qkA qkn qkc))
                  generalize (setB9 wc g6 (.int .i64 qk) (.string qn.u) (.string qn.l) (.string qn.p) (.slice qbA qbn qbc) (.slice qaA qan qac) (.string qt) (.string qg) (.slice qkA qkn qkc)) = wc at B5 B6 pok qok kw ⊢
                  clear gs y0 y1 y2 y3 y4 y5 y6 y7 y8 yf yl
                  refine hK.out _ _ (by first | (with_reducible exact MK.out _ kw)) (fun hHeld => ?_)
                  clear hK K
                  try simp only [Act.put, List.setIfInBounds_toArray, List.set_cons_zero, List.set_cons_succ]
                  refine wpAnyH_done (by kernel_rfl) ?_ _
                  go_wp2_with fail
                  go_meet
                  exact ⟨g5, g6, (Nd.mk pk pn pbA pbn pbc pbs paA pan pac pal pt pg pkA pkn pkc pks), (Nd.mk qk qn qbA qbn qbc qbs qaA qan qac qal qt qg qkA qkn qkc qks), rfl, rfl, by rw [Nd.arr_mk]; exact B5, by rw [Nd.arr_mk]; exact B6, pok, ptr.trans Z.out.2.1, qok, qtr.trans Z.out.2.2.2, kw⟩
                exact AllReadyH.nil
              exact AllReadyH.nil
            exact AllReadyH.nil
          exact AllReadyH.nil
        exact AllReadyH.nil
      refine AllReadyH.cons (o := { dst := some 5, op := Op.alloc 36, type := 0, pos := "law.go:82", after := #[], guard := none }) rfl (fun K hK => ?stepag231) ?moreag231
      case stepag231 =>
        go_simp
        first
        | (have B5 : Blk (wc.alloc (.cells znd 36)) wc.heap.size znd 36 := Blk.new wc znd _
           have ka := (Kept.refl wc).alloc (.cells znd 36)
           obtain ⟨g5, hg5⟩ : ∃ g, wc.heap.size = g := ⟨_, rfl⟩
           have hge5 : w3.heap.size ≤ g5 := by rw [← hg5]; exact kw.size
           try (have hne56 := ne_of_lt5 B6.lt hg5)
           try (have po5 := out_ne_of_lt pok hg5)
           try (have qo5 := out_ne_of_lt qok hg5)
           change K _ (wc.alloc (.cells znd 36))
           rw [hg5] at B5 ⊢
           clear hg5
           generalize wc.alloc (.cells znd 36) = wc at B5 ka ⊢
           try (replace B6 := B6.kept ka)
           try (replace pok := pok.kept ka)
           try (replace qok := qok.kept ka)
           have kw := kw.trans ka)
        | (have B5 : Blk (w3.drew.alloc (.cells znd 36)) w3.heap.size znd 36 := Blk.new w3.drew znd _
           have ka := (Kept.refl w3.drew).alloc (.cells znd 36)
           obtain ⟨g5, hg5⟩ : ∃ g, w3.heap.size = g := ⟨_, rfl⟩
           have hge5 : w3.heap.size ≤ g5 := by rw [← hg5]; exact kw.size
           try (have hne56 := ne_of_lt5 B6.lt hg5)
           try (have po5 := out_ne_of_lt pok hg5)
           try (have qo5 := out_ne_of_lt qok hg5)
           change K _ (w3.drew.alloc (.cells znd 36))
           rw [hg5] at B5 ⊢
           clear hg5
           generalize w3.drew.alloc (.cells znd 36) = wc at B5 ka ⊢
           try (replace B6 := B6.kept ka)
           try (replace pok := pok.kept ka)
           try (replace qok := qok.kept ka)
           have kw := kw.trans ka)
        refine hK.out _ _ (by first | (with_reducible exact MK.out _ kw)) (fun hHeld => ?_)
        clear hK K
        try simp only [Act.put, List.setIfInBounds_toArray, List.set_cons_zero, List.set_cons_succ]
        refine wpAnyH_ready (rs := [1, 5]) (by kernel_rfl) (by simp) ?_
        refine AllReadyH.cons (o := { dst := some 12, op := Op.call { callee := Callee.value (Operand.func 9), args := #[Operand.tmp 11], argTypes := #[28] }, type := 36, pos := "law.go:82", after := #[{ on := 0, ground := Ground.data }], guard := none }) rfl (fun K hK => ?stepag232) ?moreag232
        case stepag232 =>
          go_simp
          go_at_call 9
          refine (OZ.out _ kw).mono ?_
          rintro e wc ⟨p, rfl, pok, ptr, pout, ka⟩
          obtain ⟨pk, pn, pbA, pbn, pbc, pbs, paA, pan, pac, pal, pt, pg, pkA, pkn, pkc, pks⟩ := p
          try (have po5 := out_ne_of_ge pout B5.lt)
          try (have po6 := out_ne_of_ge pout B6.lt)
          try (replace B5 := B5.kept ka)
          try (replace B6 := B6.kept ka)
          try (replace qok := qok.kept ka)
          have kw := kw.trans ka
          rw [Nd.val_mk]
          go_wp2_with fail
          refine hK.out _ _ (by first | (with_reducible exact MK.out _ kw)) (fun hHeld => ?_)
          clear hK K
          try simp only [Act.put, List.setIfInBounds_toArray, List.set_cons_zero, List.set_cons_succ]
          refine wpAnyH_ready (rs := [3, 5]) (by kernel_rfl) (by simp) ?_
          refine AllReadyH.cons (o := { dst := some 14, op := Op.call { callee := Callee.value (Operand.func 9), args := #[Operand.tmp 13], argTypes := #[28] }, type := 36, pos := "law.go:82", after := #[{ on := 2, ground := Ground.data }, { on := 1, ground := Ground.chain }], guard := none }) rfl (fun K hK => ?stepag233) ?moreag233
          case stepag233 =>
            go_simp
            go_at_call 9
            refine (OU.out _ kw).mono ?_
            rintro e wc ⟨q, rfl, qok, qtr, qout, ka⟩
            obtain ⟨qk, qn, qbA, qbn, qbc, qbs, qaA, qan, qac, qal, qt, qg, qkA, qkn, qkc, qks⟩ := q
            try (have qo5 := out_ne_of_ge qout B5.lt)
            try (have qo6 := out_ne_of_ge qout B6.lt)
            try (replace B5 := B5.kept ka)
            try (replace B6 := B6.kept ka)
            try (replace pok := pok.kept ka)
            have kw := kw.trans ka
            rw [Nd.val_mk]
            go_wp2_with fail
            refine hK.out _ _ (by first | (with_reducible exact MK.out _ kw)) (fun hHeld => ?_)
            clear hK K
            try simp only [Act.put, List.setIfInBounds_toArray, List.set_cons_zero, List.set_cons_succ]
            refine wpAnyH_ready (rs := [5]) (by kernel_rfl) (by simp) ?_
            refine AllReadyH.cons (o := { dst := some 6, op := Op.alloc 36, type := 0, pos := "law.go:82", after := #[], guard := none }) rfl (fun K hK => ?stepag234) ?moreag234
            case stepag234 =>
              go_simp
              first
              | (have B6 : Blk (wc.alloc (.cells znd 36)) wc.heap.size znd 36 := Blk.new wc znd _
                 have ka := (Kept.refl wc).alloc (.cells znd 36)
                 obtain ⟨g6, hg6⟩ : ∃ g, wc.heap.size = g := ⟨_, rfl⟩
                 have hge6 : w3.heap.size ≤ g6 := by rw [← hg6]; exact kw.size
                 try (have hne56 := ne_of_lt6 B5.lt hg6)
                 try (have po6 := out_ne_of_lt pok hg6)
                 try (have qo6 := out_ne_of_lt qok hg6)
                 change K _ (wc.alloc (.cells znd 36))
                 rw [hg6] at B6 ⊢
                 clear hg6
                 generalize wc.alloc (.cells znd 36) = wc at B6 ka ⊢
                 try (replace B5 := B5.kept ka)
                 try (replace pok := pok.kept ka)
                 try (replace qok := qok.kept ka)
                 have kw := kw.trans ka)
              | (have B6 : Blk (w3.drew.alloc (.cells znd 36)) w3.heap.size znd 36 := Blk.new w3.drew znd _
                 have ka := (Kept.refl w3.drew).alloc (.cells znd 36)
                 obtain ⟨g6, hg6⟩ : ∃ g, w3.heap.size = g := ⟨_, rfl⟩
                 have hge6 : w3.heap.size ≤ g6 := by rw [← hg6]; exact kw.size
                 try (have hne56 := ne_of_lt6 B5.lt hg6)
                 try (have po6 := out_ne_of_lt pok hg6)
                 try (have qo6 := out_ne_of_lt qok hg6)
                 change K _ (w3.drew.alloc (.cells znd 36))
                 rw [hg6] at B6 ⊢
                 clear hg6
                 generalize w3.drew.alloc (.cells znd 36) = wc at B6 ka ⊢
                 try (replace B5 := B5.kept ka)
                 try (replace pok := pok.kept ka)
                 try (replace qok := qok.kept ka)
                 have kw := kw.trans ka)
              refine hK.out _ _ (by first | (with_reducible exact MK.out _ kw)) (fun hHeld => ?_)
              clear hK K
              try simp only [Act.put, List.setIfInBounds_toArray, List.set_cons_zero, List.set_cons_succ]
              refine wpAnyH_ready (rs := [6]) (by kernel_rfl) (by simp) ?_
              refine AllReadyH.cons (o := { dst := none, op := Op.store 36 (Operand.tmp 5) (Operand.tmp 12), type := 0, pos := "law.go:82", after := #[{ on := 4, ground := Ground.data }, { on := 1, ground := Ground.data }, { on := 3, ground := Ground.chain }, { on := 0, ground := Ground.phase }, { on := 1, ground := Ground.phase }, { on := 2, ground := Ground.textOnly Departure.lateStores }, { on := 3, ground := Ground.textOnly Departure.lateStoresUnsure }, { on := 4, ground := Ground.phase }, { on := 5, ground := Ground.phase }], guard := none }) rfl (fun K hK => ?stepag235) ?moreag235
              case stepag235 =>
                obtain ⟨y0, y1, y2, y3, y4, y5, y6, y7, y8, yf, yl⟩ := blk_znd B5
                go_simp
                have gs := grown_setB9 wc g5 (.int .i64 pk) (.string pn.u) (.string pn.l) (.string pn.p) (.slice pbA pbn pbc) (.slice paA pan pac) (.string pt) (.string pg) (.slice pkA pkn pkc)
                replace B5 := blk_setB9 B5 (.int .i64 pk) (.string pn.u) (.string pn.l) (.string pn.p) (.slice pbA pbn pbc) (.slice paA pan pac) (.string pt) (.string pg) (.slice pkA pkn pkc)
                replace B6 := B6.grown gs (by intro e'; injection e' with e'; omega)
                replace pok := pok.grown gs (po5.mono (fun b hb e' => hb (by injection e')))
                replace qok := qok.grown gs (qo5.mono (fun b hb e' => hb (by injection e')))
                have kw := kept_setB9 kw hge5 (.int .i64 pk) (.string pn.u) (.string pn.l) (.string pn.p) (.slice pbA pbn pbc) (.slice paA pan pac) (.string pt) (.string pg) (.slice pkA pkn pkc)
                change K _ (setB9 wc g5 (.int .i64 pk) (.string pn.u) (.string pn.l) (.string pn.p) (.slice pbA pbn pbc) (.slice paA pan pac) (.string pt) (.string pg) (.slice pkA pkn pkc))
                generalize (setB9 wc g5 (.int .i64 pk) (.string pn.u) (.string pn.l) (.string pn.p) (.slice pbA pbn pbc) (.slice paA pan pac) (.string pt) (.string pg) (.slice pkA pkn pkc)) = wc at B5 B6 pok qok kw ⊢
                clear gs y0 y1 y2 y3 y4 y5 y6 y7 y8 yf yl
                refine hK.out _ _ (by first | (with_reducible exact MK.out _ kw)) (fun hHeld => ?_)
                clear hK K
                try simp only [Act.put, List.setIfInBounds_toArray, List.set_cons_zero, List.set_cons_succ]
                refine wpAnyH_ready (rs := [7]) (by kernel_rfl) (by simp) ?_
                refine AllReadyH.cons (o := { dst := none, op := Op.store 36 (Operand.tmp 6) (Operand.tmp 14), type := 0, pos := "law.go:82", after := #[{ on := 5, ground := Ground.data }, { on := 3, ground := Ground.data }, { on := 6, ground := Ground.chain }, { on := 0, ground := Ground.phase }, { on := 1, ground := Ground.phase }, { on := 2, ground := Ground.phase }, { on := 3, ground := Ground.phase }, { on := 4, ground := Ground.phase }, { on := 5, ground := Ground.phase }, { on := 6, ground := Ground.phase }], guard := none }) rfl (fun K hK => ?stepag236) ?moreag236
                case stepag236 =>
                  obtain ⟨y0, y1, y2, y3, y4, y5, y6, y7, y8, yf, yl⟩ := blk_znd B6
                  go_simp
                  have gs := grown_setB9 wc g6 (.int .i64 qk) (.string qn.u) (.string qn.l) (.string qn.p) (.slice qbA qbn qbc) (.slice qaA qan qac) (.string qt) (.string qg) (.slice qkA qkn qkc)
                  replace B6 := blk_setB9 B6 (.int .i64 qk) (.string qn.u) (.string qn.l) (.string qn.p) (.slice qbA qbn qbc) (.slice qaA qan qac) (.string qt) (.string qg) (.slice qkA qkn qkc)
                  replace B5 := B5.grown gs (by intro e'; injection e' with e'; omega)
                  replace pok := pok.grown gs (po6.mono (fun b hb e' => hb (by injection e')))
                  replace qok := qok.grown gs (qo6.mono (fun b hb e' => hb (by injection e')))
                  have kw := kept_setB9 kw hge6 (.int .i64 qk) (.string qn.u) (.string qn.l) (.string qn.p) (.slice qbA qbn qbc) (.slice qaA qan qac) (.string qt) (.string qg) (.slice qkA qkn qkc)
                  change K _ (setB9 wc g6 (.int .i64 qk) (.string qn.u) (.string qn.l) (.string qn.p) (.slice qbA qbn qbc) (.slice qaA qan qac) (.string qt) (.string qg) (.slice qkA qkn qkc))
                  generalize (setB9 wc g6 (.int .i64 qk) (.string qn.u) (.string qn.l) (.string qn.p) (.slice qbA qbn qbc) (.slice qaA qan qac) (.string qt) (.string qg) (.slice qkA qkn qkc)) = wc at B5 B6 pok qok kw ⊢
                  clear gs y0 y1 y2 y3 y4 y5 y6 y7 y8 yf yl
                  refine hK.out _ _ (by first | (with_reducible exact MK.out _ kw)) (fun hHeld => ?_)
                  clear hK K
                  try simp only [Act.put, List.setIfInBounds_toArray, List.set_cons_zero, List.set_cons_succ]
                  refine wpAnyH_done (by kernel_rfl) ?_ _
                  go_wp2_with fail
                  go_meet
                  exact ⟨g5, g6, (Nd.mk pk pn pbA pbn pbc pbs paA pan pac pal pt pg pkA pkn pkc pks), (Nd.mk qk qn qbA qbn qbc qbs qaA qan qac qal qt qg qkA qkn qkc qks), rfl, rfl, by rw [Nd.arr_mk]; exact B5, by rw [Nd.arr_mk]; exact B6, pok, ptr.trans Z.out.2.1, qok, qtr.trans Z.out.2.2.2, kw⟩
                exact AllReadyH.nil
              exact AllReadyH.nil
            exact AllReadyH.nil
          refine AllReadyH.cons (o := { dst := some 6, op := Op.alloc 36, type := 0, pos := "law.go:82", after := #[], guard := none }) rfl (fun K hK => ?stepag237) ?moreag237
          case stepag237 =>
            go_simp
            first
            | (have B6 : Blk (wc.alloc (.cells znd 36)) wc.heap.size znd 36 := Blk.new wc znd _
               have ka := (Kept.refl wc).alloc (.cells znd 36)
               obtain ⟨g6, hg6⟩ : ∃ g, wc.heap.size = g := ⟨_, rfl⟩
               have hge6 : w3.heap.size ≤ g6 := by rw [← hg6]; exact kw.size
               try (have hne56 := ne_of_lt6 B5.lt hg6)
               try (have po6 := out_ne_of_lt pok hg6)
               try (have qo6 := out_ne_of_lt qok hg6)
               change K _ (wc.alloc (.cells znd 36))
               rw [hg6] at B6 ⊢
               clear hg6
               generalize wc.alloc (.cells znd 36) = wc at B6 ka ⊢
               try (replace B5 := B5.kept ka)
               try (replace pok := pok.kept ka)
               try (replace qok := qok.kept ka)
               have kw := kw.trans ka)
            | (have B6 : Blk (w3.drew.alloc (.cells znd 36)) w3.heap.size znd 36 := Blk.new w3.drew znd _
               have ka := (Kept.refl w3.drew).alloc (.cells znd 36)
               obtain ⟨g6, hg6⟩ : ∃ g, w3.heap.size = g := ⟨_, rfl⟩
               have hge6 : w3.heap.size ≤ g6 := by rw [← hg6]; exact kw.size
               try (have hne56 := ne_of_lt6 B5.lt hg6)
               try (have po6 := out_ne_of_lt pok hg6)
               try (have qo6 := out_ne_of_lt qok hg6)
               change K _ (w3.drew.alloc (.cells znd 36))
               rw [hg6] at B6 ⊢
               clear hg6
               generalize w3.drew.alloc (.cells znd 36) = wc at B6 ka ⊢
               try (replace B5 := B5.kept ka)
               try (replace pok := pok.kept ka)
               try (replace qok := qok.kept ka)
               have kw := kw.trans ka)
            refine hK.out _ _ (by first | (with_reducible exact MK.out _ kw)) (fun hHeld => ?_)
            clear hK K
            try simp only [Act.put, List.setIfInBounds_toArray, List.set_cons_zero, List.set_cons_succ]
            refine wpAnyH_ready (rs := [3]) (by kernel_rfl) (by simp) ?_
            refine AllReadyH.cons (o := { dst := some 14, op := Op.call { callee := Callee.value (Operand.func 9), args := #[Operand.tmp 13], argTypes := #[28] }, type := 36, pos := "law.go:82", after := #[{ on := 2, ground := Ground.data }, { on := 1, ground := Ground.chain }], guard := none }) rfl (fun K hK => ?stepag238) ?moreag238
            case stepag238 =>
              go_simp
              go_at_call 9
              refine (OU.out _ kw).mono ?_
              rintro e wc ⟨q, rfl, qok, qtr, qout, ka⟩
              obtain ⟨qk, qn, qbA, qbn, qbc, qbs, qaA, qan, qac, qal, qt, qg, qkA, qkn, qkc, qks⟩ := q
              try (have qo5 := out_ne_of_ge qout B5.lt)
              try (have qo6 := out_ne_of_ge qout B6.lt)
              try (replace B5 := B5.kept ka)
              try (replace B6 := B6.kept ka)
              try (replace pok := pok.kept ka)
              have kw := kw.trans ka
              rw [Nd.val_mk]
              go_wp2_with fail
              refine hK.out _ _ (by first | (with_reducible exact MK.out _ kw)) (fun hHeld => ?_)
              clear hK K
              try simp only [Act.put, List.setIfInBounds_toArray, List.set_cons_zero, List.set_cons_succ]
              refine wpAnyH_ready (rs := [6]) (by kernel_rfl) (by simp) ?_
              refine AllReadyH.cons (o := { dst := none, op := Op.store 36 (Operand.tmp 5) (Operand.tmp 12), type := 0, pos := "law.go:82", after := #[{ on := 4, ground := Ground.data }, { on := 1, ground := Ground.data }, { on := 3, ground := Ground.chain }, { on := 0, ground := Ground.phase }, { on := 1, ground := Ground.phase }, { on := 2, ground := Ground.textOnly Departure.lateStores }, { on := 3, ground := Ground.textOnly Departure.lateStoresUnsure }, { on := 4, ground := Ground.phase }, { on := 5, ground := Ground.phase }], guard := none }) rfl (fun K hK => ?stepag239) ?moreag239
              case stepag239 =>
                obtain ⟨y0, y1, y2, y3, y4, y5, y6, y7, y8, yf, yl⟩ := blk_znd B5
                go_simp
                have gs := grown_setB9 wc g5 (.int .i64 pk) (.string pn.u) (.string pn.l) (.string pn.p) (.slice pbA pbn pbc) (.slice paA pan pac) (.string pt) (.string pg) (.slice pkA pkn pkc)
                replace B5 := blk_setB9 B5 (.int .i64 pk) (.string pn.u) (.string pn.l) (.string pn.p) (.slice pbA pbn pbc) (.slice paA pan pac) (.string pt) (.string pg) (.slice pkA pkn pkc)
                replace B6 := B6.grown gs (by intro e'; injection e' with e'; omega)
                replace pok := pok.grown gs (po5.mono (fun b hb e' => hb (by injection e')))
                replace qok := qok.grown gs (qo5.mono (fun b hb e' => hb (by injection e')))
                have kw := kept_setB9 kw hge5 (.int .i64 pk) (.string pn.u) (.string pn.l) (.string pn.p) (.slice pbA pbn pbc) (.slice paA pan pac) (.string pt) (.string pg) (.slice pkA pkn pkc)
                change K _ (setB9 wc g5 (.int .i64 pk) (.string pn.u) (.string pn.l) (.string pn.p) (.slice pbA pbn pbc) (.slice paA pan pac) (.string pt) (.string pg) (.slice pkA pkn pkc))
                generalize (setB9 wc g5 (.int .i64 pk) (.string pn.u) (.string pn.l) (.string pn.p) (.slice pbA pbn pbc) (.slice paA pan pac) (.string pt) (.string pg) (.slice pkA pkn pkc)) = wc at B5 B6 pok qok kw ⊢
                clear gs y0 y1 y2 y3 y4 y5 y6 y7 y8 yf yl
                refine hK.out _ _ (by first | (with_reducible exact MK.out _ kw)) (fun hHeld => ?_)
                clear hK K
                try simp only [Act.put, List.setIfInBounds_toArray, List.set_cons_zero, List.set_cons_succ]
                refine wpAnyH_ready (rs := [7]) (by kernel_rfl) (by simp) ?_
                refine AllReadyH.cons (o := { dst := none, op := Op.store 36 (Operand.tmp 6) (Operand.tmp 14), type := 0, pos := "law.go:82", after := #[{ on := 5, ground := Ground.data }, { on := 3, ground := Ground.data }, { on := 6, ground := Ground.chain }, { on := 0, ground := Ground.phase }, { on := 1, ground := Ground.phase }, { on := 2, ground := Ground.phase }, { on := 3, ground := Ground.phase }, { on := 4, ground := Ground.phase }, { on := 5, ground := Ground.phase }, { on := 6, ground := Ground.phase }], guard := none }) rfl (fun K hK => ?stepag240) ?moreag240
                case stepag240 =>
                  obtain ⟨y0, y1, y2, y3, y4, y5, y6, y7, y8, yf, yl⟩ := blk_znd B6
                  go_simp
                  have gs := grown_setB9 wc g6 (.int .i64 qk) (.string qn.u) (.string qn.l) (.string qn.p) (.slice qbA qbn qbc) (.slice qaA qan qac) (.string qt) (.string qg) (.slice qkA qkn qkc)
                  replace B6 := blk_setB9 B6 (.int .i64 qk) (.string qn.u) (.string qn.l) (.string qn.p) (.slice qbA qbn qbc) (.slice qaA qan qac) (.string qt) (.string qg) (.slice qkA qkn qkc)
                  replace B5 := B5.grown gs (by intro e'; injection e' with e'; omega)
                  replace pok := pok.grown gs (po6.mono (fun b hb e' => hb (by injection e')))
                  replace qok := qok.grown gs (qo6.mono (fun b hb e' => hb (by injection e')))
                  have kw := kept_setB9 kw hge6 (.int .i64 qk) (.string qn.u) (.string qn.l) (.string qn.p) (.slice qbA qbn qbc) (.slice qaA qan qac) (.string qt) (.string qg) (.slice qkA qkn qkc)
                  change K _ (setB9 wc g6 (.int .i64 qk) (.string qn.u) (.string qn.l) (.string qn.p) (.slice qbA qbn qbc) (.slice qaA qan qac) (.string qt) (.string qg) (.slice qkA qkn qkc))
                  generalize (setB9 wc g6 (.int .i64 qk) (.string qn.u) (.string qn.l) (.string qn.p) (.slice qbA qbn qbc) (.slice qaA qan qac) (.string qt) (.string qg) (.slice qkA qkn qkc)) = wc at B5 B6 pok qok kw ⊢
                  clear gs y0 y1 y2 y3 y4 y5 y6 y7 y8 yf yl
                  refine hK.out _ _ (by first | (with_reducible exact MK.out _ kw)) (fun hHeld => ?_)
                  clear hK K
                  try simp only [Act.put, List.setIfInBounds_toArray, List.set_cons_zero, List.set_cons_succ]
                  refine wpAnyH_done (by kernel_rfl) ?_ _
                  go_wp2_with fail
                  go_meet
                  exact ⟨g5, g6, (Nd.mk pk pn pbA pbn pbc pbs paA pan pac pal pt pg pkA pkn pkc pks), (Nd.mk qk qn qbA qbn qbc qbs qaA qan qac qal qt qg qkA qkn qkc qks), rfl, rfl, by rw [Nd.arr_mk]; exact B5, by rw [Nd.arr_mk]; exact B6, pok, ptr.trans Z.out.2.1, qok, qtr.trans Z.out.2.2.2, kw⟩
                exact AllReadyH.nil
              exact AllReadyH.nil
            exact AllReadyH.nil
          exact AllReadyH.nil
        refine AllReadyH.cons (o := { dst := some 6, op := Op.alloc 36, type := 0, pos := "law.go:82", after := #[], guard := none }) rfl (fun K hK => ?stepag241) ?moreag241
        case stepag241 =>
          go_simp
          first
          | (have B6 : Blk (wc.alloc (.cells znd 36)) wc.heap.size znd 36 := Blk.new wc znd _
             have ka := (Kept.refl wc).alloc (.cells znd 36)
             obtain ⟨g6, hg6⟩ : ∃ g, wc.heap.size = g := ⟨_, rfl⟩
             have hge6 : w3.heap.size ≤ g6 := by rw [← hg6]; exact kw.size
             try (have hne56 := ne_of_lt6 B5.lt hg6)
             try (have po6 := out_ne_of_lt pok hg6)
             try (have qo6 := out_ne_of_lt qok hg6)
             change K _ (wc.alloc (.cells znd 36))
             rw [hg6] at B6 ⊢
             clear hg6
             generalize wc.alloc (.cells znd 36) = wc at B6 ka ⊢
             try (replace B5 := B5.kept ka)
             try (replace pok := pok.kept ka)
             try (replace qok := qok.kept ka)
             have kw := kw.trans ka)
          | (have B6 : Blk (w3.drew.alloc (.cells znd 36)) w3.heap.size znd 36 := Blk.new w3.drew znd _
             have ka := (Kept.refl w3.drew).alloc (.cells znd 36)
             obtain ⟨g6, hg6⟩ : ∃ g, w3.heap.size = g := ⟨_, rfl⟩
             have hge6 : w3.heap.size ≤ g6 := by rw [← hg6]; exact kw.size
             try (have hne56 := ne_of_lt6 B5.lt hg6)
             try (have po6 := out_ne_of_lt pok hg6)
             try (have qo6 := out_ne_of_lt qok hg6)
             change K _ (w3.drew.alloc (.cells znd 36))
             rw [hg6] at B6 ⊢
             clear hg6
             generalize w3.drew.alloc (.cells znd 36) = wc at B6 ka ⊢
             try (replace B5 := B5.kept ka)
             try (replace pok := pok.kept ka)
             try (replace qok := qok.kept ka)
             have kw := kw.trans ka)
          refine hK.out _ _ (by first | (with_reducible exact MK.out _ kw)) (fun hHeld => ?_)
          clear hK K
          try simp only [Act.put, List.setIfInBounds_toArray, List.set_cons_zero, List.set_cons_succ]
          refine wpAnyH_ready (rs := [1]) (by kernel_rfl) (by simp) ?_
          refine AllReadyH.cons (o := { dst := some 12, op := Op.call { callee := Callee.value (Operand.func 9), args := #[Operand.tmp 11], argTypes := #[28] }, type := 36, pos := "law.go:82", after := #[{ on := 0, ground := Ground.data }], guard := none }) rfl (fun K hK => ?stepag242) ?moreag242
          case stepag242 =>
            go_simp
            go_at_call 9
            refine (OZ.out _ kw).mono ?_
            rintro e wc ⟨p, rfl, pok, ptr, pout, ka⟩
            obtain ⟨pk, pn, pbA, pbn, pbc, pbs, paA, pan, pac, pal, pt, pg, pkA, pkn, pkc, pks⟩ := p
            try (have po5 := out_ne_of_ge pout B5.lt)
            try (have po6 := out_ne_of_ge pout B6.lt)
            try (replace B5 := B5.kept ka)
            try (replace B6 := B6.kept ka)
            try (replace qok := qok.kept ka)
            have kw := kw.trans ka
            rw [Nd.val_mk]
            go_wp2_with fail
            refine hK.out _ _ (by first | (with_reducible exact MK.out _ kw)) (fun hHeld => ?_)
            clear hK K
            try simp only [Act.put, List.setIfInBounds_toArray, List.set_cons_zero, List.set_cons_succ]
            refine wpAnyH_ready (rs := [3]) (by kernel_rfl) (by simp) ?_
            refine AllReadyH.cons (o := { dst := some 14, op := Op.call { callee := Callee.value (Operand.func 9), args := #[Operand.tmp 13], argTypes := #[28] }, type := 36, pos := "law.go:82", after := #[{ on := 2, ground := Ground.data }, { on := 1, ground := Ground.chain }], guard := none }) rfl (fun K hK => ?stepag243) ?moreag243
            case stepag243 =>
              go_simp
              go_at_call 9
              refine (OU.out _ kw).mono ?_
              rintro e wc ⟨q, rfl, qok, qtr, qout, ka⟩
              obtain ⟨qk, qn, qbA, qbn, qbc, qbs, qaA, qan, qac, qal, qt, qg, qkA, qkn, qkc, qks⟩ := q
              try (have qo5 := out_ne_of_ge qout B5.lt)
              try (have qo6 := out_ne_of_ge qout B6.lt)
              try (replace B5 := B5.kept ka)
              try (replace B6 := B6.kept ka)
              try (replace pok := pok.kept ka)
              have kw := kw.trans ka
              rw [Nd.val_mk]
              go_wp2_with fail
              refine hK.out _ _ (by first | (with_reducible exact MK.out _ kw)) (fun hHeld => ?_)
              clear hK K
              try simp only [Act.put, List.setIfInBounds_toArray, List.set_cons_zero, List.set_cons_succ]
              refine wpAnyH_ready (rs := [6]) (by kernel_rfl) (by simp) ?_
              refine AllReadyH.cons (o := { dst := none, op := Op.store 36 (Operand.tmp 5) (Operand.tmp 12), type := 0, pos := "law.go:82", after := #[{ on := 4, ground := Ground.data }, { on := 1, ground := Ground.data }, { on := 3, ground := Ground.chain }, { on := 0, ground := Ground.phase }, { on := 1, ground := Ground.phase }, { on := 2, ground := Ground.textOnly Departure.lateStores }, { on := 3, ground := Ground.textOnly Departure.lateStoresUnsure }, { on := 4, ground := Ground.phase }, { on := 5, ground := Ground.phase }], guard := none }) rfl (fun K hK => ?stepag244) ?moreag244
              case stepag244 =>
                obtain ⟨y0, y1, y2, y3, y4, y5, y6, y7, y8, yf, yl⟩ := blk_znd B5
                go_simp
                have gs := grown_setB9 wc g5 (.int .i64 pk) (.string pn.u) (.string pn.l) (.string pn.p) (.slice pbA pbn pbc) (.slice paA pan pac) (.string pt) (.string pg) (.slice pkA pkn pkc)
                replace B5 := blk_setB9 B5 (.int .i64 pk) (.string pn.u) (.string pn.l) (.string pn.p) (.slice pbA pbn pbc) (.slice paA pan pac) (.string pt) (.string pg) (.slice pkA pkn pkc)
                replace B6 := B6.grown gs (by intro e'; injection e' with e'; omega)
                replace pok := pok.grown gs (po5.mono (fun b hb e' => hb (by injection e')))
                replace qok := qok.grown gs (qo5.mono (fun b hb e' => hb (by injection e')))
                have kw := kept_setB9 kw hge5 (.int .i64 pk) (.string pn.u) (.string pn.l) (.string pn.p) (.slice pbA pbn pbc) (.slice paA pan pac) (.string pt) (.string pg) (.slice pkA pkn pkc)
                change K _ (setB9 wc g5 (.int .i64 pk) (.string pn.u) (.string pn.l) (.string pn.p) (.slice pbA pbn pbc) (.slice paA pan pac) (.string pt) (.string pg) (.slice pkA pkn pkc))
                generalize (setB9 wc g5 (.int .i64 pk) (.string pn.u) (.string pn.l) (.string pn.p) (.slice pbA pbn pbc) (.slice paA pan pac) (.string pt) (.string pg) (.slice pkA pkn pkc)) = wc at B5 B6 pok qok kw ⊢
                clear gs y0 y1 y2 y3 y4 y5 y6 y7 y8 yf yl
                refine hK.out _ _ (by first | (with_reducible exact MK.out _ kw)) (fun hHeld => ?_)
                clear hK K
                try simp only [Act.put, List.setIfInBounds_toArray, List.set_cons_zero, List.set_cons_succ]
                refine wpAnyH_ready (rs := [7]) (by kernel_rfl) (by simp) ?_
                refine AllReadyH.cons (o := { dst := none, op := Op.store 36 (Operand.tmp 6) (Operand.tmp 14), type := 0, pos := "law.go:82", after := #[{ on := 5, ground := Ground.data }, { on := 3, ground := Ground.data }, { on := 6, ground := Ground.chain }, { on := 0, ground := Ground.phase }, { on := 1, ground := Ground.phase }, { on := 2, ground := Ground.phase }, { on := 3, ground := Ground.phase }, { on := 4, ground := Ground.phase }, { on := 5, ground := Ground.phase }, { on := 6, ground := Ground.phase }], guard := none }) rfl (fun K hK => ?stepag245) ?moreag245
                case stepag245 =>
                  obtain ⟨y0, y1, y2, y3, y4, y5, y6, y7, y8, yf, yl⟩ := blk_znd B6
                  go_simp
                  have gs := grown_setB9 wc g6 (.int .i64 qk) (.string qn.u) (.string qn.l) (.string qn.p) (.slice qbA qbn qbc) (.slice qaA qan qac) (.string qt) (.string qg) (.slice qkA qkn qkc)
                  replace B6 := blk_setB9 B6 (.int .i64 qk) (.string qn.u) (.string qn.l) (.string qn.p) (.slice qbA qbn qbc) (.slice qaA qan qac) (.string qt) (.string qg) (.slice qkA qkn qkc)
                  replace B5 := B5.grown gs (by intro e'; injection e' with e'; omega)
                  replace pok := pok.grown gs (po6.mono (fun b hb e' => hb (by injection e')))
                  replace qok := qok.grown gs (qo6.mono (fun b hb e' => hb (by injection e')))
                  have kw := kept_setB9 kw hge6 (.int .i64 qk) (.string qn.u) (.string qn.l) (.string qn.p) (.slice qbA qbn qbc) (.slice qaA qan qac) (.string qt) (.string qg) (.slice qkA qkn qkc)
                  change K _ (setB9 wc g6 (.int .i64 qk) (.string qn.u) (.string qn.l) (.string qn.p) (.slice qbA qbn qbc) (.slice qaA qan qac) (.string qt) (.string qg) (.slice qkA qkn qkc))
                  generalize (setB9 wc g6 (.int .i64 qk) (.string qn.u) (.string qn.l) (.string qn.p) (.slice qbA qbn qbc) (.slice qaA qan qac) (.string qt) (.string qg) (.slice qkA qkn qkc)) = wc at B5 B6 pok qok kw ⊢
                  clear gs y0 y1 y2 y3 y4 y5 y6 y7 y8 yf yl
                  refine hK.out _ _ (by first | (with_reducible exact MK.out _ kw)) (fun hHeld => ?_)
                  clear hK K
                  try simp only [Act.put, List.setIfInBounds_toArray, List.set_cons_zero, List.set_cons_succ]
                  refine wpAnyH_done (by kernel_rfl) ?_ _
                  go_wp2_with fail
                  go_meet
                  exact ⟨g5, g6, (Nd.mk pk pn pbA pbn pbc pbs paA pan pac pal pt pg pkA pkn pkc pks), (Nd.mk qk qn qbA qbn qbc qbs qaA qan qac qal qt qg qkA qkn qkc qks), rfl, rfl, by rw [Nd.arr_mk]; exact B5, by rw [Nd.arr_mk]; exact B6, pok, ptr.trans Z.out.2.1, qok, qtr.trans Z.out.2.2.2, kw⟩
                exact AllReadyH.nil
              exact AllReadyH.nil
            exact AllReadyH.nil
          exact AllReadyH.nil
        exact AllReadyH.nil
      refine AllReadyH.cons (o := { dst := some 6, op := Op.alloc 36, type := 0, pos := "law.go:82", after := #[], guard := none }) rfl (fun K hK => ?stepag246) ?moreag246
      case stepag246 =>
        go_simp
        first
        | (have B6 : Blk (wc.alloc (.cells znd 36)) wc.heap.size znd 36 := Blk.new wc znd _
           have ka := (Kept.refl wc).alloc (.cells znd 36)
           obtain ⟨g6, hg6⟩ : ∃ g, wc.heap.size = g := ⟨_, rfl⟩
           have hge6 : w3.heap.size ≤ g6 := by rw [← hg6]; exact kw.size
           try (have hne56 := ne_of_lt6 B5.lt hg6)
           try (have po6 := out_ne_of_lt pok hg6)
           try (have qo6 := out_ne_of_lt qok hg6)
           change K _ (wc.alloc (.cells znd 36))
           rw [hg6] at B6 ⊢
           clear hg6
           generalize wc.alloc (.cells znd 36) = wc at B6 ka ⊢
           try (replace B5 := B5.kept ka)
           try (replace pok := pok.kept ka)
           try (replace qok := qok.kept ka)
           have kw := kw.trans ka)
        | (have B6 : Blk (w3.drew.alloc (.cells znd 36)) w3.heap.size znd 36 := Blk.new w3.drew znd _
           have ka := (Kept.refl w3.drew).alloc (.cells znd 36)
           obtain ⟨g6, hg6⟩ : ∃ g, w3.heap.size = g := ⟨_, rfl⟩
           have hge6 : w3.heap.size ≤ g6 := by rw [← hg6]; exact kw.size
           try (have hne56 := ne_of_lt6 B5.lt hg6)
           try (have po6 := out_ne_of_lt pok hg6)
           try (have qo6 := out_ne_of_lt qok hg6)
           change K _ (w3.drew.alloc (.cells znd 36))
           rw [hg6] at B6 ⊢
           clear hg6
           generalize w3.drew.alloc (.cells znd 36) = wc at B6 ka ⊢
           try (replace B5 := B5.kept ka)
           try (replace pok := pok.kept ka)
           try (replace qok := qok.kept ka)
           have kw := kw.trans ka)
        refine hK.out _ _ (by first | (with_reducible exact MK.out _ kw)) (fun hHeld => ?_)
        clear hK K
        try simp only [Act.put, List.setIfInBounds_toArray, List.set_cons_zero, List.set_cons_succ]
        refine wpAnyH_ready (rs := [1, 4]) (by kernel_rfl) (by simp) ?_
        refine AllReadyH.cons (o := { dst := some 12, op := Op.call { callee := Callee.value (Operand.func 9), args := #[Operand.tmp 11], argTypes := #[28] }, type := 36, pos := "law.go:82", after := #[{ on := 0, ground := Ground.data }], guard := none }) rfl (fun K hK => ?stepag247) ?moreag247
        case stepag247 =>
          go_simp
          go_at_call 9
          refine (OZ.out _ kw).mono ?_
          rintro e wc ⟨p, rfl, pok, ptr, pout, ka⟩
          obtain ⟨pk, pn, pbA, pbn, pbc, pbs, paA, pan, pac, pal, pt, pg, pkA, pkn, pkc, pks⟩ := p
          try (have po5 := out_ne_of_ge pout B5.lt)
          try (have po6 := out_ne_of_ge pout B6.lt)
          try (replace B5 := B5.kept ka)
          try (replace B6 := B6.kept ka)
          try (replace qok := qok.kept ka)
          have kw := kw.trans ka
          rw [Nd.val_mk]
          go_wp2_with fail
          refine hK.out _ _ (by first | (with_reducible exact MK.out _ kw)) (fun hHeld => ?_)
          clear hK K
          try simp only [Act.put, List.setIfInBounds_toArray, List.set_cons_zero, List.set_cons_succ]
          refine wpAnyH_ready (rs := [3, 4]) (by kernel_rfl) (by simp) ?_
          refine AllReadyH.cons (o := { dst := some 14, op := Op.call { callee := Callee.value (Operand.func 9), args := #[Operand.tmp 13], argTypes := #[28] }, type := 36, pos := "law.go:82", after := #[{ on := 2, ground := Ground.data }, { on := 1, ground := Ground.chain }], guard := none }) rfl (fun K hK => ?stepag248) ?moreag248
          case stepag248 =>
            go_simp
            go_at_call 9
            refine (OU.out _ kw).mono ?_
            rintro e wc ⟨q, rfl, qok, qtr, qout, ka⟩
            obtain ⟨qk, qn, qbA, qbn, qbc, qbs, qaA, qan, qac, qal, qt, qg, qkA, qkn, qkc, qks⟩ := q
            try (have qo5 := out_ne_of_ge qout B5.lt)
            try (have qo6 := out_ne_of_ge qout B6.lt)
            try (replace B5 := B5.kept ka)
            try (replace B6 := B6.kept ka)
            try (replace pok := pok.kept ka)
            have kw := kw.trans ka
            rw [Nd.val_mk]
            go_wp2_with fail
            refine hK.out _ _ (by first | (with_reducible exact MK.out _ kw)) (fun hHeld => ?_)
            clear hK K
            try simp only [Act.put, List.setIfInBounds_toArray, List.set_cons_zero, List.set_cons_succ]
            refine wpAnyH_ready (rs := [4]) (by kernel_rfl) (by simp) ?_
            refine AllReadyH.cons (o := { dst := some 5, op := Op.alloc 36, type := 0, pos := "law.go:82", after := #[], guard := none }) rfl (fun K hK => ?stepag249) ?moreag249
            case stepag249 =>
              go_simp
              first
              | (have B5 : Blk (wc.alloc (.cells znd 36)) wc.heap.size znd 36 := Blk.new wc znd _
                 have ka := (Kept.refl wc).alloc (.cells znd 36)
                 obtain ⟨g5, hg5⟩ : ∃ g, wc.heap.size = g := ⟨_, rfl⟩
                 have hge5 : w3.heap.size ≤ g5 := by rw [← hg5]; exact kw.size
                 try (have hne56 := ne_of_lt5 B6.lt hg5)
                 try (have po5 := out_ne_of_lt pok hg5)
                 try (have qo5 := out_ne_of_lt qok hg5)
                 change K _ (wc.alloc (.cells znd 36))
                 rw [hg5] at B5 ⊢
                 clear hg5
                 generalize wc.alloc (.cells znd 36) = wc at B5 ka ⊢
                 try (replace B6 := B6.kept ka)
                 try (replace pok := pok.kept ka)
                 try (replace qok := qok.kept ka)
                 have kw := kw.trans ka)
              | (have B5 : Blk (w3.drew.alloc (.cells znd 36)) w3.heap.size znd 36 := Blk.new w3.drew znd _
                 have ka := (Kept.refl w3.drew).alloc (.cells znd 36)
                 obtain ⟨g5, hg5⟩ : ∃ g, w3.heap.size = g := ⟨_, rfl⟩
                 have hge5 : w3.heap.size ≤ g5 := by rw [← hg5]; exact kw.size
                 try (have hne56 := ne_of_lt5 B6.lt hg5)
                 try (have po5 := out_ne_of_lt pok hg5)
                 try (have qo5 := out_ne_of_lt qok hg5)
                 change K _ (w3.drew.alloc (.cells znd 36))
                 rw [hg5] at B5 ⊢
                 clear hg5
                 generalize w3.drew.alloc (.cells znd 36) = wc at B5 ka ⊢
                 try (replace B6 := B6.kept ka)
                 try (replace pok := pok.kept ka)
                 try (replace qok := qok.kept ka)
                 have kw := kw.trans ka)
              refine hK.out _ _ (by first | (with_reducible exact MK.out _ kw)) (fun hHeld => ?_)
              clear hK K
              try simp only [Act.put, List.setIfInBounds_toArray, List.set_cons_zero, List.set_cons_succ]
              refine wpAnyH_ready (rs := [6]) (by kernel_rfl) (by simp) ?_
              refine AllReadyH.cons (o := { dst := none, op := Op.store 36 (Operand.tmp 5) (Operand.tmp 12), type := 0, pos := "law.go:82", after := #[{ on := 4, ground := Ground.data }, { on := 1, ground := Ground.data }, { on := 3, ground := Ground.chain }, { on := 0, ground := Ground.phase }, { on := 1, ground := Ground.phase }, { on := 2, ground := Ground.textOnly Departure.lateStores }, { on := 3, ground := Ground.textOnly Departure.lateStoresUnsure }, { on := 4, ground := Ground.phase }, { on := 5, ground := Ground.phase }], guard := none }) rfl (fun K hK => ?stepag250) ?moreag250
              case stepag250 =>
                obtain ⟨y0, y1, y2, y3, y4, y5, y6, y7, y8, yf, yl⟩ := blk_znd B5
                go_simp
                have gs := grown_setB9 wc g5 (.int .i64 pk) (.string pn.u) (.string pn.l) (.string pn.p) (.slice pbA pbn pbc) (.slice paA pan pac) (.string pt) (.string pg) (.slice pkA pkn pkc)
                replace B5 := blk_setB9 B5 (.int .i64 pk) (.string pn.u) (.string pn.l) (.string pn.p) (.slice pbA pbn pbc) (.slice paA pan pac) (.string pt) (.string pg) (.slice pkA pkn pkc)
                replace B6 := B6.grown gs (by intro e'; injection e' with e'; omega)
                replace pok := pok.grown gs (po5.mono (fun b hb e' => hb (by injection e')))
                replace qok := qok.grown gs (qo5.mono (fun b hb e' => hb (by injection e')))
                have kw := kept_setB9 kw hge5 (.int .i64 pk) (.string pn.u) (.string pn.l) (.string pn.p) (.slice pbA pbn pbc) (.slice paA pan pac) (.string pt) (.string pg) (.slice pkA pkn pkc)
                change K _ (setB9 wc g5 (.int .i64 pk) (.string pn.u) (.string pn.l) (.string pn.p) (.slice pbA pbn pbc) (.slice paA pan pac) (.string pt) (.string pg) (.slice pkA pkn pkc))
                generalize (setB9 wc g5 (.int .i64 pk) (.string pn.u) (.string pn.l) (.string pn.p) (.slice pbA pbn pbc) (.slice paA pan pac) (.string pt) (.string pg) (.slice pkA pkn pkc)) = wc at B5 B6 pok qok kw ⊢
                clear gs y0 y1 y2 y3 y4 y5 y6 y7 y8 yf yl
                refine hK.out _ _ (by first | (with_reducible exact MK.out _ kw)) (fun hHeld => ?_)
                clear hK K
                try simp only [Act.put, List.setIfInBounds_toArray, List.set_cons_zero, List.set_cons_succ]
                refine wpAnyH_ready (rs := [7]) (by kernel_rfl) (by simp) ?_
                refine AllReadyH.cons (o := { dst := none, op := Op.store 36 (Operand.tmp 6) (Operand.tmp 14), type := 0, pos := "law.go:82", after := #[{ on := 5, ground := Ground.data }, { on := 3, ground := Ground.data }, { on := 6, ground := Ground.chain }, { on := 0, ground := Ground.phase }, { on := 1, ground := Ground.phase }, { on := 2, ground := Ground.phase }, { on := 3, ground := Ground.phase }, { on := 4, ground := Ground.phase }, { on := 5, ground := Ground.phase }, { on := 6, ground := Ground.phase }], guard := none }) rfl (fun K hK => ?stepag251) ?moreag251
                case stepag251 =>
                  obtain ⟨y0, y1, y2, y3, y4, y5, y6, y7, y8, yf, yl⟩ := blk_znd B6
                  go_simp
                  have gs := grown_setB9 wc g6 (.int .i64 qk) (.string qn.u) (.string qn.l) (.string qn.p) (.slice qbA qbn qbc) (.slice qaA qan qac) (.string qt) (.string qg) (.slice qkA qkn qkc)
                  replace B6 := blk_setB9 B6 (.int .i64 qk) (.string qn.u) (.string qn.l) (.string qn.p) (.slice qbA qbn qbc) (.slice qaA qan qac) (.string qt) (.string qg) (.slice qkA qkn qkc)
                  replace B5 := B5.grown gs (by intro e'; injection e' with e'; omega)
                  replace pok := pok.grown gs (po6.mono (fun b hb e' => hb (by injection e')))
                  replace qok := qok.grown gs (qo6.mono (fun b hb e' => hb (by injection e')))
                  have kw := kept_setB9 kw hge6 (.int .i64 qk) (.string qn.u) (.string qn.l) (.string qn.p) (.slice qbA qbn qbc) (.slice qaA qan qac) (.string qt) (.string qg) (.slice qkA qkn qkc)
                  change K _ (setB9 wc g6 (.int .i64 qk) (.string qn.u) (.string qn.l) (.string qn.p) (.slice qbA qbn qbc) (.slice qaA qan qac) (.string qt) (.string qg) (.slice qkA qkn qkc))
                  generalize (setB9 wc g6 (.int .i64 qk) (.string qn.u) (.string qn.l) (.string qn.p) (.slice qbA qbn qbc) (.slice qaA qan qac) (.string qt) (.string qg) (.slice qkA qkn qkc)) = wc at B5 B6 pok qok kw ⊢
                  clear gs y0 y1 y2 y3 y4 y5 y6 y7 y8 yf yl
                  refine hK.out _ _ (by first | (with_reducible exact MK.out _ kw)) (fun hHeld => ?_)
                  clear hK K
                  try simp only [Act.put, List.setIfInBounds_toArray, List.set_cons_zero, List.set_cons_succ]
                  refine wpAnyH_done (by kernel_rfl) ?_ _
                  go_wp2_with fail
                  go_meet
                  exact ⟨g5, g6, (Nd.mk pk pn pbA pbn pbc pbs paA pan pac pal pt pg pkA pkn pkc pks), (Nd.mk qk qn qbA qbn qbc qbs qaA qan qac qal qt qg qkA qkn qkc qks), rfl, rfl, by rw [Nd.arr_mk]; exact B5, by rw [Nd.arr_mk]; exact B6, pok, ptr.trans Z.out.2.1, qok, qtr.trans Z.out.2.2.2, kw⟩
                exact AllReadyH.nil
              exact AllReadyH.nil
            exact AllReadyH.nil
          refine AllReadyH.cons (o := { dst := some 5, op := Op.alloc 36, type := 0, pos := "law.go:82", after := #[], guard := none }) rfl (fun K hK => ?stepag252) ?moreag252
          case stepag252 =>
            go_simp
            first
            | (have B5 : Blk (wc.alloc (.cells znd 36)) wc.heap.size znd 36 := Blk.new wc znd _
               have ka := (Kept.refl wc).alloc (.cells znd 36)
               obtain ⟨g5, hg5⟩ : ∃ g, wc.heap.size = g := ⟨_, rfl⟩
               have hge5 : w3.heap.size ≤ g5 := by rw [← hg5]; exact kw.size
               try (have hne56 := ne_of_lt5 B6.lt hg5)
               try (have po5 := out_ne_of_lt pok hg5)
               try (have qo5 := out_ne_of_lt qok hg5)
               change K _ (wc.alloc (.cells znd 36))
               rw [hg5] at B5 ⊢
               clear hg5
               generalize wc.alloc (.cells znd 36) = wc at B5 ka ⊢
               try (replace B6 := B6.kept ka)
               try (replace pok := pok.kept ka)
               try (replace qok := qok.kept ka)
               have kw := kw.trans ka)
            | (have B5 : Blk (w3.drew.alloc (.cells znd 36)) w3.heap.size znd 36 := Blk.new w3.drew znd _
               have ka := (Kept.refl w3.drew).alloc (.cells znd 36)
               obtain ⟨g5, hg5⟩ : ∃ g, w3.heap.size = g := ⟨_, rfl⟩
               have hge5 : w3.heap.size ≤ g5 := by rw [← hg5]; exact kw.size
               try (have hne56 := ne_of_lt5 B6.lt hg5)
               try (have po5 := out_ne_of_lt pok hg5)
               try (have qo5 := out_ne_of_lt qok hg5)
               change K _ (w3.drew.alloc (.cells znd 36))
               rw [hg5] at B5 ⊢
               clear hg5
               generalize w3.drew.alloc (.cells znd 36) = wc at B5 ka ⊢
               try (replace B6 := B6.kept ka)
               try (replace pok := pok.kept ka)
               try (replace qok := qok.kept ka)
               have kw := kw.trans ka)
            refine hK.out _ _ (by first | (with_reducible exact MK.out _ kw)) (fun hHeld => ?_)
            clear hK K
            try simp only [Act.put, List.setIfInBounds_toArray, List.set_cons_zero, List.set_cons_succ]
            refine wpAnyH_ready (rs := [3]) (by kernel_rfl) (by simp) ?_
            refine AllReadyH.cons (o := { dst := some 14, op := Op.call { callee := Callee.value (Operand.func 9), args := #[Operand.tmp 13], argTypes := #[28] }, type := 36, pos := "law.go:82", after := #[{ on := 2, ground := Ground.data }, { on := 1, ground := Ground.chain }], guard := none }) rfl (fun K hK => ?stepag253) ?moreag253
            case stepag253 =>
              go_simp
              go_at_call 9
              refine (OU.out _ kw).mono ?_
              rintro e wc ⟨q, rfl, qok, qtr, qout, ka⟩
              obtain ⟨qk, qn, qbA, qbn, qbc, qbs, qaA, qan, qac, qal, qt, qg, qkA, qkn, qkc, qks⟩ := q
              try (have qo5 := out_ne_of_ge qout B5.lt)
              try (have qo6 := out_ne_of_ge qout B6.lt)
              try (replace B5 := B5.kept ka)
              try (replace B6 := B6.kept ka)
              try (replace pok := pok.kept ka)
              have kw := kw.trans ka
              rw [Nd.val_mk]
              go_wp2_with fail
              refine hK.out _ _ (by first | (with_reducible exact MK.out _ kw)) (fun hHeld => ?_)
              clear hK K
              try simp only [Act.put, List.setIfInBounds_toArray, List.set_cons_zero, List.set_cons_succ]
              refine wpAnyH_ready (rs := [6]) (by kernel_rfl) (by simp) ?_
              refine AllReadyH.cons (o := { dst := none, op := Op.store 36 (Operand.tmp 5) (Operand.tmp 12), type := 0, pos := "law.go:82", after := #[{ on := 4, ground := Ground.data }, { on := 1, ground := Ground.data }, { on := 3, ground := Ground.chain }, { on := 0, ground := Ground.phase }, { on := 1, ground := Ground.phase }, { on := 2, ground := Ground.textOnly Departure.lateStores }, { on := 3, ground := Ground.textOnly Departure.lateStoresUnsure }, { on := 4, ground := Ground.phase }, { on := 5, ground := Ground.phase }], guard := none }) rfl (fun K hK => ?stepag254) ?moreag254
              case stepag254 =>
                obtain ⟨y0, y1, y2, y3, y4, y5, y6, y7, y8, yf, yl⟩ := blk_znd B5
                go_simp
                have gs := grown_setB9 wc g5 (.int .i64 pk) (.string pn.u) (.string pn.l) (.string pn.p) (.slice pbA pbn pbc) (.slice paA pan pac) (.string pt) (.string pg) (.slice pkA pkn pkc)
                replace B5 := blk_setB9 B5 (.int .i64 pk) (.string pn.u) (.string pn.l) (.string pn.p) (.slice pbA pbn pbc) (.slice paA pan pac) (.string pt) (.string pg) (.slice pkA pkn pkc)
                replace B6 := B6.grown gs (by intro e'; injection e' with e'; omega)
                replace pok := pok.grown gs (po5.mono (fun b hb e' => hb (by injection e')))
                replace qok := qok.grown gs (qo5.mono (fun b hb e' => hb (by injection e')))
                have kw := kept_setB9 kw hge5 (.int .i64 pk) (.string pn.u) (.string pn.l) (.string pn.p) (.slice pbA pbn pbc) (.slice paA pan pac) (.string pt) (.string pg) (.slice pkA pkn pkc)
                change K _ (setB9 wc g5 (.int .i64 pk) (.string pn.u) (.string pn.l) (.string pn.p) (.slice pbA pbn pbc) (.slice paA pan pac) (.string pt) (.string pg) (.slice pkA pkn pkc))
                generalize (setB9 wc g5 (.int .i64 pk) (.string pn.u) (.string pn.l) (.string pn.p) (.slice pbA pbn pbc) (.slice paA pan pac) (.string pt) (.string pg) (.slice pkA pkn pkc)) = wc at B5 B6 pok qok kw ⊢
                clear gs y0 y1 y2 y3 y4 y5 y6 y7 y8 yf yl
                refine hK.out _ _ (by first | (with_reducible exact MK.out _ kw)) (fun hHeld => ?_)
                clear hK K
                try simp only [Act.put, List.setIfInBounds_toArray, List.set_cons_zero, List.set_cons_succ]
                refine wpAnyH_ready (rs := [7]) (by kernel_rfl) (by simp) ?_
                refine AllReadyH.cons (o := { dst := none, op := Op.store 36 (Operand.tmp 6) (Operand.tmp 14), type := 0, pos := "law.go:82", after := #[{ on := 5, ground := Ground.data }, { on := 3, ground := Ground.data }, { on := 6, ground := Ground.chain }, { on := 0, ground := Ground.phase }, { on := 1, ground := Ground.phase }, { on := 2, ground := Ground.phase }, { on := 3, ground := Ground.phase }, { on := 4, ground := Ground.phase }, { on := 5, ground := Ground.phase }, { on := 6, ground := Ground.phase }], guard := none }) rfl (fun K hK => ?stepag255) ?moreag255
                case stepag255 =>
                  obtain ⟨y0, y1, y2, y3, y4, y5, y6, y7, y8, yf, yl⟩ := blk_znd B6
                  go_simp
                  have gs := grown_setB9 wc g6 (.int .i64 qk) (.string qn.u) (.string qn.l) (.string qn.p) (.slice qbA qbn qbc) (.slice qaA qan qac) (.string qt) (.string qg) (.slice qkA qkn qkc)
                  replace B6 := blk_setB9 B6 (.int .i64 qk) (.string qn.u) (.string qn.l) (.string qn.p) (.slice qbA qbn qbc) (.slice qaA qan qac) (.string qt) (.string qg) (.slice qkA qkn qkc)
                  replace B5 := B5.grown gs (by intro e'; injection e' with e'; omega)
                  replace pok := pok.grown gs (po6.mono (fun b hb e' => hb (by injection e')))
                  replace qok := qok.grown gs (qo6.mono (fun b hb e' => hb (by injection e')))
                  have kw := kept_setB9 kw hge6 (.int .i64 qk) (.string qn.u) (.string qn.l) (.string qn.p) (.slice qbA qbn qbc) (.slice qaA qan qac) (.string qt) (.string qg) (.slice qkA qkn qkc)
                  change K _ (setB9 wc g6 (.int .i64 qk) (.string qn.u) (.string qn.l) (.string qn.p) (.slice qbA qbn qbc) (.slice qaA qan qac) (.string qt) (.string qg) (.slice qkA qkn qkc))
                  generalize (setB9 wc g6 (.int .i64 qk) (.string qn.u) (.string qn.l) (.string qn.p) (.slice qbA qbn qbc) (.slice qaA qan qac) (.string qt) (.string qg) (.slice qkA qkn qkc)) = wc at B5 B6 pok qok kw ⊢
                  clear gs y0 y1 y2 y3 y4 y5 y6 y7 y8 yf yl
                  refine hK.out _ _ (by first | (with_reducible exact MK.out _ kw)) (fun hHeld => ?_)
                  clear hK K
                  try simp only [Act.put, List.setIfInBounds_toArray, List.set_cons_zero, List.set_cons_succ]
                  refine wpAnyH_done (by kernel_rfl) ?_ _
                  go_wp2_with fail
                  go_meet
                  exact ⟨g5, g6, (Nd.mk pk pn pbA pbn pbc pbs paA pan pac pal pt pg pkA pkn pkc pks), (Nd.mk qk qn qbA qbn qbc qbs qaA qan qac qal qt qg qkA qkn qkc qks), rfl, rfl, by rw [Nd.arr_mk]; exact B5, by rw [Nd.arr_mk]; exact B6, pok, ptr.trans Z.out.2.1, qok, qtr.trans Z.out.2.2.2, kw⟩
                exact AllReadyH.nil
              exact AllReadyH.nil
            exact AllReadyH.nil
          exact AllReadyH.nil
        refine AllReadyH.cons (o := { dst := some 5, op := Op.alloc 36, type := 0, pos := "law.go:82", after := #[], guard := none }) rfl (fun K hK => ?stepag256) ?moreag256
        case stepag256 =>
          go_simp
          first
          | (have B5 : Blk (wc.alloc (.cells znd 36)) wc.heap.size znd 36 := Blk.new wc znd _
             have ka := (Kept.refl wc).alloc (.cells znd 36)
             obtain ⟨g5, hg5⟩ : ∃ g, wc.heap.size = g := ⟨_, rfl⟩
             have hge5 : w3.heap.size ≤ g5 := by rw [← hg5]; exact kw.size
             try (have hne56 := ne_of_lt5 B6.lt hg5)
             try (have po5 := out_ne_of_lt pok hg5)
             try (have qo5 := out_ne_of_lt qok hg5)
             change K _ (wc.alloc (.cells znd 36))
             rw [hg5] at B5 ⊢
             clear hg5
             generalize wc.alloc (.cells znd 36) = wc at B5 ka ⊢
             try (replace B6 := B6.kept ka)
             try (replace pok := pok.kept ka)
             try (replace qok := qok.kept ka)
             have kw := kw.trans ka)
          | (have B5 : Blk (w3.drew.alloc (.cells znd 36)) w3.heap.size znd 36 := Blk.new w3.drew znd _
             have ka := (Kept.refl w3.drew).alloc (.cells znd 36)
             obtain ⟨g5, hg5⟩ : ∃ g, w3.heap.size = g := ⟨_, rfl⟩
             have hge5 : w3.heap.size ≤ g5 := by rw [← hg5]; exact kw.size
             try (have hne56 := ne_of_lt5 B6.lt hg5)
             try (have po5 := out_ne_of_lt pok hg5)
             try (have qo5 := out_ne_of_lt qok hg5)
             change K _ (w3.drew.alloc (.cells znd 36))
             rw [hg5] at B5 ⊢
             clear hg5
             generalize w3.drew.alloc (.cells znd 36) = wc at B5 ka ⊢
             try (replace B6 := B6.kept ka)
             try (replace pok := pok.kept ka)
             try (replace qok := qok.kept ka)
             have kw := kw.trans ka)
          refine hK.out _ _ (by first | (with_reducible exact MK.out _ kw)) (fun hHeld => ?_)
          clear hK K
          try simp only [Act.put, List.setIfInBounds_toArray, List.set_cons_zero, List.set_cons_succ]
          refine wpAnyH_ready (rs := [1]) (by kernel_rfl) (by simp) ?_
          refine AllReadyH.cons (o := { dst := some 12, op := Op.call { callee := Callee.value (Operand.func 9), args := #[Operand.tmp 11], argTypes := #[28] }, type := 36, pos := "law.go:82", after := #[{ on := 0, ground := Ground.data }], guard := none }) rfl (fun K hK => ?stepag257) ?moreag257
          case stepag257 =>
            go_simp
            go_at_call 9
            refine (OZ.out _ kw).mono ?_
            rintro e wc ⟨p, rfl, pok, ptr, pout, ka⟩
            obtain ⟨pk, pn, pbA, pbn, pbc, pbs, paA, pan, pac, pal, pt, pg, pkA, pkn, pkc, pks⟩ := p
            try (have po5 := out_ne_of_ge pout B5.lt)
            try (have po6 := out_ne_of_ge pout B6.lt)
            try (replace B5 := B5.kept ka)
            try (replace B6 := B6.kept ka)
            try (replace qok := qok.kept ka)
            have kw := kw.trans ka
            rw [Nd.val_mk]
            go_wp2_with fail
            refine hK.out _ _ (by first | (with_reducible exact MK.out _ kw)) (fun hHeld => ?_)
            clear hK K
            try simp only [Act.put, List.setIfInBounds_toArray, List.set_cons_zero, List.set_cons_succ]
            refine wpAnyH_ready (rs := [3]) (by kernel_rfl) (by simp) ?_
            refine AllReadyH.cons (o := { dst := some 14, op := Op.call { callee := Callee.value (Operand.func 9), args := #[Operand.tmp 13], argTypes := #[28] }, type := 36, pos := "law.go:82", after := #[{ on := 2, ground := Ground.data }, { on := 1, ground := Ground.chain }], guard := none }) rfl (fun K hK => ?stepag258) ?moreag258
            case stepag258 =>
              go_simp
              go_at_call 9
              refine (OU.out _ kw).mono ?_
              rintro e wc ⟨q, rfl, qok, qtr, qout, ka⟩
              obtain ⟨qk, qn, qbA, qbn, qbc, qbs, qaA, qan, qac, qal, qt, qg, qkA, qkn, qkc, qks⟩ := q
              try (have qo5 := out_ne_of_ge qout B5.lt)
              try (have qo6 := out_ne_of_ge qout B6.lt)
              try (replace B5 := B5.kept ka)
              try (replace B6 := B6.kept ka)
              try (replace pok := pok.kept ka)
              have kw := kw.trans ka
              rw [Nd.val_mk]
              go_wp2_with fail
              refine hK.out _ _ (by first | (with_reducible exact MK.out _ kw)) (fun hHeld => ?_)
              clear hK K
              try simp only [Act.put, List.setIfInBounds_toArray, List.set_cons_zero, List.set_cons_succ]
              refine wpAnyH_ready (rs := [6]) (by kernel_rfl) (by simp) ?_
              refine AllReadyH.cons (o := { dst := none, op := Op.store 36 (Operand.tmp 5) (Operand.tmp 12), type := 0, pos := "law.go:82", after := #[{ on := 4, ground := Ground.data }, { on := 1, ground := Ground.data }, { on := 3, ground := Ground.chain }, { on := 0, ground := Ground.phase }, { on := 1, ground := Ground.phase }, { on := 2, ground := Ground.textOnly Departure.lateStores }, { on := 3, ground := Ground.textOnly Departure.lateStoresUnsure }, { on := 4, ground := Ground.phase }, { on := 5, ground := Ground.phase }], guard := none }) rfl (fun K hK => ?stepag259) ?moreag259
              case stepag259 =>
                obtain ⟨y0, y1, y2, y3, y4, y5, y6, y7, y8, yf, yl⟩ := blk_znd B5
                go_simp
                have gs := grown_setB9 wc g5 (.int .i64 pk) (.string pn.u) (.string pn.l) (.string pn.p) (.slice pbA pbn pbc) (.slice paA pan pac) (.string pt) (.string pg) (.slice pkA pkn pkc)
                replace B5 := blk_setB9 B5 (.int .i64 pk) (.string pn.u) (.string pn.l) (.string pn.p) (.slice pbA pbn pbc) (.slice paA pan pac) (.string pt) (.string pg) (.slice pkA pkn pkc)
                replace B6 := B6.grown gs (by intro e'; injection e' with e'; omega)
                replace pok := pok.grown gs (po5.mono (fun b hb e' => hb (by injection e')))
                replace qok := qok.grown gs (qo5.mono (fun b hb e' => hb (by injection e')))
                have kw := kept_setB9 kw hge5 (.int .i64 pk) (.string pn.u) (.string pn.l) (.string pn.p) (.slice pbA pbn pbc) (.slice paA pan pac) (.string pt) (.string pg) (.slice pkA pkn pkc)
                change K _ (setB9 wc g5 (.int .i64 pk) (.string pn.u) (.string pn.l) (.string pn.p) (.slice pbA pbn pbc) (.slice paA pan pac) (.string pt) (.string pg) (.slice pkA pkn pkc))
                generalize (setB9 wc g5 (.int .i64 pk) (.string pn.u) (.string pn.l) (.string pn.p) (.slice pbA pbn pbc) (.slice paA pan pac) (.string pt) (.string pg) (.slice pkA pkn pkc)) = wc at B5 B6 pok qok kw ⊢
                clear gs y0 y1 y2 y3 y4 y5 y6 y7 y8 yf yl
                refine hK.out _ _ (by first | (with_reducible exact MK.out _ kw)) (fun hHeld => ?_)
                clear hK K
                try simp only [Act.put, List.setIfInBounds_toArray, List.set_cons_zero, List.set_cons_succ]
                refine wpAnyH_ready (rs := [7]) (by kernel_rfl) (by simp) ?_
                refine AllReadyH.cons (o := { dst := none, op := Op.store 36 (Operand.tmp 6) (Operand.tmp 14), type := 0, pos := "law.go:82", after := #[{ on := 5, ground := Ground.data }, { on := 3, ground := Ground.data }, { on := 6, ground := Ground.chain }, { on := 0, ground := Ground.phase }, { on := 1, ground := Ground.phase }, { on := 2, ground := Ground.phase }, { on := 3, ground := Ground.phase }, { on := 4, ground := Ground.phase }, { on := 5, ground := Ground.phase }, { on := 6, ground := Ground.phase }], guard := none }) rfl (fun K hK => ?stepag260) ?moreag260
                case stepag260 =>
                  obtain ⟨y0, y1, y2, y3, y4, y5, y6, y7, y8, yf, yl⟩ := blk_znd B6
                  go_simp
                  have gs := grown_setB9 wc g6 (.int .i64 qk) (.string qn.u) (.string qn.l) (.string qn.p) (.slice qbA qbn qbc) (.slice qaA qan qac) (.string qt) (.string qg) (.slice qkA qkn qkc)
                  replace B6 := blk_setB9 B6 (.int .i64 qk) (.string qn.u) (.string qn.l) (.string qn.p) (.slice qbA qbn qbc) (.slice qaA qan qac) (.string qt) (.string qg) (.slice qkA qkn qkc)
                  replace B5 := B5.grown gs (by intro e'; injection e' with e'; omega)
                  replace pok := pok.grown gs (po6.mono (fun b hb e' => hb (by injection e')))
                  replace qok := qok.grown gs (qo6.mono (fun b hb e' => hb (by injection e')))
                  have kw := kept_setB9 kw hge6 (.int .i64 qk) (.string qn.u) (.string qn.l) (.string qn.p) (.slice qbA qbn qbc) (.slice qaA qan qac) (.string qt) (.string qg) (.slice qkA qkn qkc)
                  change K _ (setB9 wc g6 (.int .i64 qk) (.string qn.u) (.string qn.l) (.string qn.p) (.slice qbA qbn qbc) (.slice qaA qan qac) (.string qt) (.string qg) (.slice qkA qkn qkc))
                  generalize (setB9 wc g6 (.int .i64 qk) (.string qn.u) (.string qn.l) (.string qn.p) (.slice qbA qbn qbc) (.slice qaA qan qac) (.string qt) (.string qg) (.slice qkA qkn qkc)) = wc at B5 B6 pok qok kw ⊢
                  clear gs y0 y1 y2 y3 y4 y5 y6 y7 y8 yf yl
                  refine hK.out _ _ (by first | (with_reducible exact MK.out _ kw)) (fun hHeld => ?_)
                  clear hK K
                  try simp only [Act.put, List.setIfInBounds_toArray, List.set_cons_zero, List.set_cons_succ]
                  refine wpAnyH_done (by kernel_rfl) ?_ _
                  go_wp2_with fail
                  go_meet
                  exact ⟨g5, g6, (Nd.mk pk pn pbA pbn pbc pbs paA pan pac pal pt pg pkA pkn pkc pks), (Nd.mk qk qn qbA qbn qbc qbs qaA qan qac qal qt qg qkA qkn qkc qks), rfl, rfl, by rw [Nd.arr_mk]; exact B5, by rw [Nd.arr_mk]; exact B6, pok, ptr.trans Z.out.2.1, qok, qtr.trans Z.out.2.2.2, kw⟩
                exact AllReadyH.nil
              exact AllReadyH.nil
            exact AllReadyH.nil
          exact AllReadyH.nil
        exact AllReadyH.nil
      exact AllReadyH.nil
    case rest =>
      clear MK OZ OU kw
      obtain ⟨g5, g6, p, q, rfl, rfl, B5, B6, pok, ptr, qok, qtr, k4⟩ := hcut
      obtain ⟨w4, hw4⟩ : ∃ q, q = wc := ⟨_, rfl⟩
      subst hw4
      obtain ⟨pk, pn, pbA, pbn, pbc, pbs, paA, pan, pac, pal, pt, pg, pkA, pkn, pkc, pks⟩ := p
      obtain ⟨qk, qn, qbA, qbn, qbc, qbs, qaA, qan, qac, qal, qt, qg, qkA, qkn, qkc, qks⟩ := q
      rw [Nd.arr_mk] at B5 B6
      have hsp : Small (Nd.mk pk pn pbA pbn pbc pbs paA pan pac pal pt pg pkA pkn pkc pks).tr := by rw [ptr]; exact HSM.out.1
      have hsq : Small (Nd.mk qk qn qbA qbn qbc qbs qaA qan qac qal qt qg qkA qkn qkc qks).tr := by rw [qtr]; exact HSM.out.2
      have hsz : Small (Nd.mk zk zn zbA zbn zbc zbs zaA zan zac zal zt zg zkA zkn zkc zks).tr := by rw [Z.out.2.1]; exact HSM.out.1
      have hsu : Small (Nd.mk uk un ubA ubn ubc ubs uaA uan uac ual ut ug ukA ukn ukc uks).tr := by rw [Z.out.2.2.2]; exact HSM.out.2
      obtain ⟨S, hS⟩ : ∃ S, sameT X Y = S := ⟨_, rfl⟩
      obtain ⟨A, hA⟩ : ∃ A, alikeT X Y = A := ⟨_, rfl⟩
      have HSA : Hid (S = true → A = true) := fun h => hA.symm.trans (same_alike X Y (hS.trans h))
      have SPQ : Hid (∀ w', Kept w4 w' → Calls Try.prog 22 #[.agg #[.int .i64 pk, .string pn.u, .string pn.l, .string pn.p, .slice pbA pbn pbc, .slice paA pan pac, .string pt, .string pg, .slice pkA pkn pkc], .agg #[.int .i64 qk, .string qn.u, .string qn.l, .string qn.p, .slice qbA qbn qbc, .slice qaA qan qac, .string qt, .string qg, .slice qkA qkn qkc]] w' fun e w'' => e = .returned (.bool S) ∧ Kept w' w'') := by
        intro w' kk
        have h1 := same_any (Nd.mk pk pn pbA pbn pbc pbs paA pan pac pal pt pg pkA pkn pkc pks) (Nd.mk qk qn qbA qbn qbc qbs qaA qan qac qal qt qg qkA qkn qkc qks) w' (pok.kept kk) (qok.kept kk)
        rw [ptr, qtr, hS] at h1
        exact h1
      have SPP : Hid (∀ w', Kept w4 w' → Calls Try.prog 22 #[.agg #[.int .i64 pk, .string pn.u, .string pn.l, .string pn.p, .slice pbA pbn pbc, .slice paA pan pac, .string pt, .string pg, .slice pkA pkn pkc], .agg #[.int .i64 pk, .string pn.u, .string pn.l, .string pn.p, .slice pbA pbn pbc, .slice paA pan pac, .string pt, .string pg, .slice pkA pkn pkc]] w' fun e w'' => e = .returned (.bool true) ∧ Kept w' w'') := by
        intro w' kk
        have h1 := same_any (Nd.mk pk pn pbA pbn pbc pbs paA pan pac pal pt pg pkA pkn pkc pks) (Nd.mk pk pn pbA pbn pbc pbs paA pan pac pal pt pg pkA pkn pkc pks) w' (pok.kept kk) (pok.kept kk)
        rw [sameT_self] at h1
        exact h1
      have APQ : Hid (∀ w', Kept w4 w' → Calls Try.prog 24 #[.agg #[.int .i64 pk, .string pn.u, .string pn.l, .string pn.p, .slice pbA pbn pbc, .slice paA pan pac, .string pt, .string pg, .slice pkA pkn pkc], .agg #[.int .i64 qk, .string qn.u, .string qn.l, .string qn.p, .slice qbA qbn qbc, .slice qaA qan qac, .string qt, .string qg, .slice qkA qkn qkc]] w' fun e w'' => e = .returned (.bool A) ∧ Kept w' w'') := by
        intro w' kk
        have h1 := alike_any (Nd.mk pk pn pbA pbn pbc pbs paA pan pac pal pt pg pkA pkn pkc pks) (Nd.mk qk qn qbA qbn qbc qbs qaA qan qac qal qt qg qkA qkn qkc qks) w' (pok.kept kk) (qok.kept kk) hsp hsq
        rw [ptr, qtr, hA] at h1
        exact h1
      have AQP : Hid (∀ w', Kept w4 w' → Calls Try.prog 24 #[.agg #[.int .i64 qk, .string qn.u, .string qn.l, .string qn.p, .slice qbA qbn qbc, .slice qaA qan qac, .string qt, .string qg, .slice qkA qkn qkc], .agg #[.int .i64 pk, .string pn.u, .string pn.l, .string pn.p, .slice pbA pbn pbc, .slice paA pan pac, .string pt, .string pg, .slice pkA pkn pkc]] w' fun e w'' => e = .returned (.bool A) ∧ Kept w' w'') := by
        intro w' kk
        have h1 := alike_any (Nd.mk qk qn qbA qbn qbc qbs qaA qan qac qal qt qg qkA qkn qkc qks) (Nd.mk pk pn pbA pbn pbc pbs paA pan pac pal pt pg pkA pkn pkc pks) w' (qok.kept kk) (pok.kept kk) hsq hsp
        rw [ptr, qtr, alikeT_comm, hA] at h1
        exact h1
      have AQQ : Hid (∀ w', Kept w4 w' → Calls Try.prog 24 #[.agg #[.int .i64 qk, .string qn.u, .string qn.l, .string qn.p, .slice qbA qbn qbc, .slice qaA qan qac, .string qt, .string qg, .slice qkA qkn qkc], .agg #[.int .i64 qk, .string qn.u, .string qn.l, .string qn.p, .slice qbA qbn qbc, .slice qaA qan qac, .string qt, .string qg, .slice qkA qkn qkc]] w' fun e w'' => e = .returned (.bool true) ∧ Kept w' w'') := by
        intro w' kk
        have h1 := alike_any (Nd.mk qk qn qbA qbn qbc qbs qaA qan qac qal qt qg qkA qkn qkc qks) (Nd.mk qk qn qbA qbn qbc qbs qaA qan qac qal qt qg qkA qkn qkc qks) w' (qok.kept kk) (qok.kept kk) hsq hsq
        rw [alikeT_self] at h1
        exact h1
      have RSZ : Hid (∀ w', Kept w4 w' → Calls Try.prog 11 #[.agg #[.int .i64 zk, .string zn.u, .string zn.l, .string zn.p, .slice zbA zbn zbc, .slice zaA zan zac, .string zt, .string zg, .slice zkA zkn zkc], .agg #[.int .i64 uk, .string un.u, .string un.l, .string un.p, .slice ubA ubn ubc, .slice uaA uan uac, .string ut, .string ug, .slice ukA ukn ukc]] w' fun e w'' => e = .returned (.bool S) ∧ Kept w' w'') := by
        intro w' kk
        have h1 := rsame_any (Nd.mk zk zn zbA zbn zbc zbs zaA zan zac zal zt zg zkA zkn zkc zks) (Nd.mk uk un ubA ubn ubc ubs uaA uan uac ual ut ug ukA ukn ukc uks) w' ((Z.out.1.kept k4).kept kk) ((Z.out.2.2.1.kept k4).kept kk)
        rw [Z.out.2.1, Z.out.2.2.2, hS] at h1
        exact h1
      have RAZ : Hid (∀ w', Kept w4 w' → Calls Try.prog 25 #[.agg #[.int .i64 zk, .string zn.u, .string zn.l, .string zn.p, .slice zbA zbn zbc, .slice zaA zan zac, .string zt, .string zg, .slice zkA zkn zkc], .agg #[.int .i64 uk, .string un.u, .string un.l, .string un.p, .slice ubA ubn ubc, .slice uaA uan uac, .string ut, .string ug, .slice ukA ukn ukc]] w' fun e w'' => e = .returned (.bool A) ∧ Kept w' w'') := by
        intro w' kk
        have h1 := ralike_any (Nd.mk zk zn zbA zbn zbc zbs zaA zan zac zal zt zg zkA zkn zkc zks) (Nd.mk uk un ubA ubn ubc ubs uaA uan uac ual ut ug ukA ukn ukc uks) w' ((Z.out.1.kept k4).kept kk) ((Z.out.2.2.1.kept k4).kept kk) hsz hsu
        rw [Z.out.2.1, Z.out.2.2.2, hA] at h1
        exact h1
      have HBZ := Lib.hid (show _ ∧ _ from ⟨HBB.out.1.kept k4, HBB.out.2.kept k4⟩)
      have K4 : Kept w w4 := KW.trans k4
      clear hS hA hsp hsq hsz hsu pok ptr qok qtr Z HBB KW k4
      go_upto_region 3 with fail
      go_cut [35] (fun s wx => s = .bool false ∧ Kept w4 wx)
      case first =>
        have bf5 := B5.cell
        have bf6 := B6.cell
        cases S
        · go_wp2_with fail
          refine (SPQ.out _ (Kept.refl _)).mono ?_
          rintro e wa ⟨rfl, ka⟩
          clear bf5 bf6
          have bf5 := (B5.kept ka).cell
          have bf6 := (B6.kept ka).cell
          go_wp2_with fail
          refine (SPP.out _ ka).mono ?_
          rintro e wb ⟨rfl, kb⟩
          clear bf5 bf6
          have kb := ka.trans kb
          have bf5 := (B5.kept kb).cell
          have bf6 := (B6.kept kb).cell
          go_wp2_with fail
          refine (AQQ.out _ kb).mono ?_
          rintro e wc ⟨rfl, kc⟩
          clear bf5 bf6
          go_wp2_with fail
          go_meet
          exact ⟨rfl, kb.trans kc⟩
        · obtain rfl : A = true := HSA.out rfl
          go_wp2_with fail
          refine (SPQ.out _ (Kept.refl _)).mono ?_
          rintro e wa ⟨rfl, ka⟩
          clear bf5 bf6
          have bf5 := (B5.kept ka).cell
          have bf6 := (B6.kept ka).cell
          go_wp2_with fail
          refine (APQ.out _ ka).mono ?_
          rintro e wb ⟨rfl, kb⟩
          clear bf5 bf6
          have kb := ka.trans kb
          have bf5 := (B5.kept kb).cell
          have bf6 := (B6.kept kb).cell
          go_wp2_with fail
          refine (SPP.out _ kb).mono ?_
          rintro e wc ⟨rfl, kc⟩
          clear bf5 bf6
          have kc := kb.trans kc
          have bf5 := (B5.kept kc).cell
          have bf6 := (B6.kept kc).cell
          go_wp2_with fail
          refine (AQQ.out _ kc).mono ?_
          rintro e wd ⟨rfl, kd⟩
          clear bf5 bf6
          go_wp2_with fail
          go_meet
          exact ⟨rfl, kc.trans kd⟩
      case rest =>
        obtain ⟨rfl, k5⟩ := hcut
        obtain ⟨w5, hw5⟩ : ∃ q, q = wc := ⟨_, rfl⟩
        subst hw5
        have MK : Hid (∀ w', Kept w5 w' → w'.cell? ⟨g5, 0, none⟩ = some (.int .i64 pk) ∧ w'.cell? ⟨g5, 1, none⟩ = some (.string pn.u) ∧ w'.cell? ⟨g5, 2, none⟩ = some (.string pn.l) ∧ w'.cell? ⟨g5, 3, none⟩ = some (.string pn.p) ∧ w'.cell? ⟨g5, 4, none⟩ = some (.slice pbA pbn pbc) ∧ w'.cell? ⟨g5, 5, none⟩ = some (.slice paA pan pac) ∧ w'.cell? ⟨g5, 6, none⟩ = some (.string pt) ∧ w'.cell? ⟨g5, 7, none⟩ = some (.string pg) ∧ w'.cell? ⟨g5, 8, none⟩ = some (.slice pkA pkn pkc) ∧ w'.cell? ⟨g6, 0, none⟩ = some (.int .i64 qk) ∧ w'.cell? ⟨g6, 1, none⟩ = some (.string qn.u) ∧ w'.cell? ⟨g6, 2, none⟩ = some (.string qn.l) ∧ w'.cell? ⟨g6, 3, none⟩ = some (.string qn.p) ∧ w'.cell? ⟨g6, 4, none⟩ = some (.slice qbA qbn qbc) ∧ w'.cell? ⟨g6, 5, none⟩ = some (.slice qaA qan qac) ∧ w'.cell? ⟨g6, 6, none⟩ = some (.string qt) ∧ w'.cell? ⟨g6, 7, none⟩ = some (.string qg) ∧ w'.cell? ⟨g6, 8, none⟩ = some (.slice qkA qkn qkc) ∧ w'.cell? ⟨g1, 0, none⟩ = some (.int .i64 zk) ∧ w'.cell? ⟨g1, 1, none⟩ = some (.string zn.u) ∧ w'.cell? ⟨g1, 2, none⟩ = some (.string zn.l) ∧ w'.cell? ⟨g1, 3, none⟩ = some (.string zn.p) ∧ w'.cell? ⟨g1, 4, none⟩ = some (.slice zbA zbn zbc) ∧ w'.cell? ⟨g1, 5, none⟩ = some (.slice zaA zan zac) ∧ w'.cell? ⟨g1, 6, none⟩ = some (.string zt) ∧ w'.cell? ⟨g1, 7, none⟩ = some (.string zg) ∧ w'.cell? ⟨g1, 8, none⟩ = some (.slice zkA zkn zkc) ∧ w'.cell? ⟨g2, 0, none⟩ = some (.int .i64 uk) ∧ w'.cell? ⟨g2, 1, none⟩ = some (.string un.u) ∧ w'.cell? ⟨g2, 2, none⟩ = some (.string un.l) ∧ w'.cell? ⟨g2, 3, none⟩ = some (.string un.p) ∧ w'.cell? ⟨g2, 4, none⟩ = some (.slice ubA ubn ubc) ∧ w'.cell? ⟨g2, 5, none⟩ = some (.slice uaA uan uac) ∧ w'.cell? ⟨g2, 6, none⟩ = some (.string ut) ∧ w'.cell? ⟨g2, 7, none⟩ = some (.string ug) ∧ w'.cell? ⟨g2, 8, none⟩ = some (.slice ukA ukn ukc)) := by
          intro w' kk
          have b1 := ((B5.kept k5).kept kk).cell
          have b2 := ((B6.kept k5).kept kk).cell
          have b3 := ((HBZ.out.1.kept k5).kept kk).cell
          have b4 := ((HBZ.out.2.kept k5).kept kk).cell
          exact ⟨b1 0, b1 1, b1 2, b1 3, b1 4, b1 5, b1 6, b1 7, b1 8, b2 0, b2 1, b2 2, b2 3, b2 4, b2 5, b2 6, b2 7, b2 8, b3 0, b3 1, b3 2, b3 3, b3 4, b3 5, b3 6, b3 7, b3 8, b4 0, b4 1, b4 2, b4 3, b4 4, b4 5, b4 6, b4 7, b4 8⟩
        have kw : Kept w5 w5.drew := (Kept.refl w5).drew
        have sS : (S == S) = true := by simp
        have sA : (A == A) = true := by simp
        clear B5 B6 HSA SPP AQQ
        go_upto_region 5 with fail
        go_region_held3 (fun w' => w'.cell? ⟨g5, 0, none⟩ = some (.int .i64 pk) ∧ w'.cell? ⟨g5, 1, none⟩ = some (.string pn.u) ∧ w'.cell? ⟨g5, 2, none⟩ = some (.string pn.l) ∧ w'.cell? ⟨g5, 3, none⟩ = some (.string pn.p) ∧ w'.cell? ⟨g5, 4, none⟩ = some (.slice pbA pbn pbc) ∧ w'.cell? ⟨g5, 5, none⟩ = some (.slice paA pan pac) ∧ w'.cell? ⟨g5, 6, none⟩ = some (.string pt) ∧ w'.cell? ⟨g5, 7, none⟩ = some (.string pg) ∧ w'.cell? ⟨g5, 8, none⟩ = some (.slice pkA pkn pkc) ∧ w'.cell? ⟨g6, 0, none⟩ = some (.int .i64 qk) ∧ w'.cell? ⟨g6, 1, none⟩ = some (.string qn.u) ∧ w'.cell? ⟨g6, 2, none⟩ = some (.string qn.l) ∧ w'.cell? ⟨g6, 3, none⟩ = some (.string qn.p) ∧ w'.cell? ⟨g6, 4, none⟩ = some (.slice qbA qbn qbc) ∧ w'.cell? ⟨g6, 5, none⟩ = some (.slice qaA qan qac) ∧ w'.cell? ⟨g6, 6, none⟩ = some (.string qt) ∧ w'.cell? ⟨g6, 7, none⟩ = some (.string qg) ∧ w'.cell? ⟨g6, 8, none⟩ = some (.slice qkA qkn qkc) ∧ w'.cell? ⟨g1, 0, none⟩ = some (.int .i64 zk) ∧ w'.cell? ⟨g1, 1, none⟩ = some (.string zn.u) ∧ w'.cell? ⟨g1, 2, none⟩ = some (.string zn.l) ∧ w'.cell? ⟨g1, 3, none⟩ = some (.string zn.p) ∧ w'.cell? ⟨g1, 4, none⟩ = some (.slice zbA zbn zbc) ∧ w'.cell? ⟨g1, 5, none⟩ = some (.slice zaA zan zac) ∧ w'.cell? ⟨g1, 6, none⟩ = some (.string zt) ∧ w'.cell? ⟨g1, 7, none⟩ = some (.string zg) ∧ w'.cell? ⟨g1, 8, none⟩ = some (.slice zkA zkn zkc) ∧ w'.cell? ⟨g2, 0, none⟩ = some (.int .i64 uk) ∧ w'.cell? ⟨g2, 1, none⟩ = some (.string un.u) ∧ w'.cell? ⟨g2, 2, none⟩ = some (.string un.l) ∧ w'.cell? ⟨g2, 3, none⟩ = some (.string un.p) ∧ w'.cell? ⟨g2, 4, none⟩ = some (.slice ubA ubn ubc) ∧ w'.cell? ⟨g2, 5, none⟩ = some (.slice uaA uan uac) ∧ w'.cell? ⟨g2, 6, none⟩ = some (.string ut) ∧ w'.cell? ⟨g2, 7, none⟩ = some (.string ug) ∧ w'.cell? ⟨g2, 8, none⟩ = some (.slice ukA ukn ukc))
          (first | (with_reducible exact MK.out _ kw))
          (first
          | (go_at_call 22; (with_reducible refine (SPQ.out _ (k5.trans kw)).mono ?_); rintro e wn ⟨rfl, kn⟩; have kw := kw.trans kn)
          | (go_at_call 11; (with_reducible refine (RSZ.out _ (k5.trans kw)).mono ?_); rintro e wn ⟨rfl, kn⟩; have kw := kw.trans kn)
          | (go_at_call 24; first
            | ((with_reducible refine (APQ.out _ (k5.trans kw)).mono ?_); rintro e wn ⟨rfl, kn⟩; have kw := kw.trans kn)
            | ((with_reducible refine (AQP.out _ (k5.trans kw)).mono ?_); rintro e wn ⟨rfl, kn⟩; have kw := kw.trans kn))
          | (go_at_call 25; (with_reducible refine (RAZ.out _ (k5.trans kw)).mono ?_); rintro e wn ⟨rfl, kn⟩; have kw := kw.trans kn)
          | (go_at_call 15; (with_reducible refine (infAwake_any _).mono ?_); rintro e wn ⟨rfl, kn⟩; have kw := kw.trans kn))
        all_goals
          go_wp2_with fail
          go_ret
          exact ⟨rfl, (K4.trans k5).trans kw⟩
end Go.Proofs.Ytnlncamiaddhfaa
