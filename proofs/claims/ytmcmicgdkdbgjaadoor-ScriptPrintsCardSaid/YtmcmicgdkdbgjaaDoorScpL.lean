/- Steps as text: the laws' Ours, and script.Print, walked (printed by wip/gen/gen_scpl.py). -/
import Derived.Test.YtmcmicgdkdbgjaaDoorScpH
import Derived.Test.YtmcmicgdkdbgjaaDoorScpK
namespace Go.Proofs.YtmcmicgdkdbgjaaDoor
open Go.RowKit
attribute [local go_sem ↓] Go.wp_at_zero Go.wp_at_succ

set_option maxRecDepth 100000 in
set_option maxHeartbeats 4000000 in
theorem ours24_any (k : Int) (A : Option Addr) (m c : Nat) (B : Option Addr) (n d : Nat) (N : Int) (a t : ByteArray) (w : World) :
    Calls Tryd.prog 18 #[.agg #[.int .i64 k, .slice A m c, .slice B n d, .int .i64 N, .string a, .string t]] w fun e w' => e = .returned (.agg #[.int .i64 k, .slice A m c, .slice B n d, .int .i64 N, .string a, .string t]) ∧ Kept w w' := by
  have k0 : Kept w _ := ((Kept.refl w).alloc (.cells #[.int .i64 k, .slice A m c, .slice B n d, .int .i64 N, .string a, .string t] 38)).alloc (.cells #[.int .i64 0, .slice none 0 0, .slice none 0 0, .int .i64 0, .string ⟨#[]⟩, .string ⟨#[]⟩] 37)
  have b1 := (Blk.new w #[.int .i64 k, .slice A m c, .slice B n d, .int .i64 N, .string a, .string t] 38).alloc (.cells #[.int .i64 0, .slice none 0 0, .slice none 0 0, .int .i64 0, .string ⟨#[]⟩, .string ⟨#[]⟩] 37)
  have b2 := Blk.new (w.alloc (.cells #[.int .i64 k, .slice A m c, .slice B n d, .int .i64 N, .string a, .string t] 38)) #[.int .i64 0, .slice none 0 0, .slice none 0 0, .int .i64 0, .string ⟨#[]⟩, .string ⟨#[]⟩] 37
  go_enter Tryd.func18, Tryd.ntmps18
  go_upto_region 1 with fail
  generalize (w.alloc (.cells #[.int .i64 k, .slice A m c, .slice B n d, .int .i64 N, .string a, .string t] 38)).alloc (.cells #[.int .i64 0, .slice none 0 0, .slice none 0 0, .int .i64 0, .string ⟨#[]⟩, .string ⟨#[]⟩] 37) = w1 at k0 b1 b2 ⊢
  have b2' : Blk w1 (w.heap.size + 1) #[.int .i64 0, .slice none 0 0, .slice none 0 0, .int .i64 0, .string ⟨#[]⟩, .string ⟨#[]⟩] 37 := by simpa using b2
  clear b2
  obtain ⟨gr, hgr⟩ : ∃ g2, w.heap.size + 1 = g2 := ⟨_, rfl⟩
  obtain ⟨g, hg⟩ : ∃ g1, w.heap.size = g1 := ⟨_, rfl⟩
  have hne : g ≠ gr := by omega
  have hlo : w.heap.size ≤ gr := by omega
  rw [hgr] at b2' ⊢
  rw [hg] at b1 ⊢
  have H0 : Hid (Blk w1 g #[.int .i64 k, .slice A m c, .slice B n d, .int .i64 N, .string a, .string t] 38 ∧ Blk w1 gr #[.int .i64 0, .slice none 0 0, .slice none 0 0, .int .i64 0, .string ⟨#[]⟩, .string ⟨#[]⟩] 37 ∧ Kept w w1) := ⟨b1, b2', k0⟩
  clear b1 b2' k0
  have bc := Blk.cell H0.out.1
  have z0 : w1.cell? ⟨g, 0, none⟩ = some (.int .i64 k) := bc 0
  have z1 : w1.cell? ⟨g, 1, none⟩ = some (.slice A m c) := bc 1
  have z2 : w1.cell? ⟨g, 2, none⟩ = some (.slice B n d) := bc 2
  have z3 : w1.cell? ⟨g, 3, none⟩ = some (.int .i64 N) := bc 3
  have z4 : w1.cell? ⟨g, 4, none⟩ = some (.string a) := bc 4
  have z5 : w1.cell? ⟨g, 5, none⟩ = some (.string t) := bc 5
  have bd := Blk.cell H0.out.2.1
  have v0 : w1.cell? ⟨gr, 0, none⟩ = some (.int .i64 0) := bd 0
  have v1 : w1.cell? ⟨gr, 1, none⟩ = some (.slice none 0 0) := bd 1
  have v2 : w1.cell? ⟨gr, 2, none⟩ = some (.slice none 0 0) := bd 2
  have v3 : w1.cell? ⟨gr, 3, none⟩ = some (.int .i64 0) := bd 3
  have v4 : w1.cell? ⟨gr, 4, none⟩ = some (.string ⟨#[]⟩) := bd 4
  have v5 : w1.cell? ⟨gr, 5, none⟩ = some (.string ⟨#[]⟩) := bd 5
  have fr := Blk.frozen H0.out.1
  have fs := Blk.frozen H0.out.2.1
  clear bc bd
  go_wp2_with fail
  refine body_named ?_
  intro w9 hw9
  have e9 : w9 = opSet6 w1 gr (.int .i64 k) (.slice A m c) (.slice B n d) (.int .i64 N) (.string a) (.string t) := hw9
  have h9 := op6 H0.out.2.1 H0.out.2.2 hlo e9
  have bz := Blk.cell h9.1
  have y0 : w9.cell? ⟨gr, 0, none⟩ = some (.int .i64 k) := bz 0
  have y1 : w9.cell? ⟨gr, 1, none⟩ = some (.slice A m c) := bz 1
  have y2 : w9.cell? ⟨gr, 2, none⟩ = some (.slice B n d) := bz 2
  have y3 : w9.cell? ⟨gr, 3, none⟩ = some (.int .i64 N) := bz 3
  have y4 : w9.cell? ⟨gr, 4, none⟩ = some (.string a) := bz 4
  have y5 : w9.cell? ⟨gr, 5, none⟩ = some (.string t) := bz 5
  clear bz hw9 e9 fr fs
  exact bodyPost_ret (v := .agg #[.int .i64 k, .slice A m c, .slice B n d, .int .i64 N, .string a, .string t]) (by simp [results, Tryd.results18, go_sem, y0, y1, y2, y3, y4, y5]) rfl ⟨rfl, h9.2⟩
/-- A step as it stands in memory, whatever its numbers. -/
structure Oi where
  k : Int
  A : Option Addr
  m : Nat
  c : Nat
  p : List Int
  B : Option Addr
  n : Nat
  d : Nat
  q : List Int
  N : Int
  a : ByteArray
  t : ByteArray
def Oi.cl (o : Oi) : List Value := [.int .i64 o.k, .slice o.A o.m o.c, .slice o.B o.n o.d, .int .i64 o.N, .string o.a, .string o.t]
def Oi.ok (o : Oi) (w : World) : Prop := Sl w 1 o.A o.m o.c (o.p.map intV) ∧ Sl w 1 o.B o.n o.d (o.q.map intV)
def Oi.sm (o : Oi) : Prop := o.m ≤ 1000 ∧ o.n ≤ 1000 ∧ o.a.size ≤ 1000 ∧ o.t.size ≤ 1000
def Oi.mayB (o : Oi) : Bool := mayO o.k o.p o.q o.N o.a.toList o.t.toList
def Oi.st (o : Oi) : St := stO o.k o.p o.q o.N o.a.toList o.t.toList
theorem Oi.ok_kept {o : Oi} {w w' : World} (h : o.ok w) (k : Kept w w') : o.ok w' := ⟨h.1.kept k, h.2.kept k⟩
theorem Sl.elemi {w : World} {A : Option Addr} {n c : Nat} {L : List Oi} (h : Sl w 6 A n c (L.flatMap Oi.cl)) {k : Nat} (hk : k < n) : ∃ b i x, A = some ⟨b, i, none⟩ ∧ L[k]? = some x ∧ w.cell? ⟨b, i + k * 6, none⟩ = some (.int .i64 x.k) ∧ w.cell? ⟨b, i + k * 6 + 1, none⟩ = some (.slice x.A x.m x.c) ∧ w.cell? ⟨b, i + k * 6 + 2, none⟩ = some (.slice x.B x.n x.d) ∧ w.cell? ⟨b, i + k * 6 + 3, none⟩ = some (.int .i64 x.N) ∧ w.cell? ⟨b, i + k * 6 + 4, none⟩ = some (.string x.a) ∧ w.cell? ⟨b, i + k * 6 + 5, none⟩ = some (.string x.t) ∧ b < w.heap.size := by
  obtain ⟨b, i, x, e, hx, hc, hb⟩ := h.elemb (enc := Oi.cl) (fun _ => rfl) (by omega) hk
  exact ⟨b, i, x, e, hx, hc 0 _ rfl, hc 1 _ rfl, hc 2 _ rfl, hc 3 _ rfl, hc 4 _ rfl, hc 5 _ rfl, hb⟩
theorem Bd.kept {w w' : World} {B b : Nat} {l : Bs} (h : Bd w B b l) (hk : Kept w w') : Bd w' B b l := by
  have one : ∀ p, Lib.BuilderAt 62 5 B b p (Lib.byteCells l) w → Lib.BuilderAt 62 5 B b p (Lib.byteCells l) w' := by
    rintro p ⟨h1, v, h2, h3, h4⟩
    refine ⟨h1, v, ?_, own_kept h3 hk, h4⟩
    rw [Below.block hk b (Array.getElem?_eq_some_iff.1 h2).1]
    exact h2
  rcases h with h | h
  · exact .inl (one _ h)
  · exact .inr (one _ h)
theorem line_len {st : St} (h9 : st.k ≤ 9) (h : st.okN) (hp : st.p.length ≤ 1000) (hq : st.q.length ≤ 1000) (ha : st.a.length ≤ 1000) (ht : st.t.length ≤ 1000) : (lineF st).length ≤ 100040 := by
  have hw := word_len ⟨st.k, by omega⟩
  dsimp only at hw
  have hs : ∀ sg : Bs, (fieldsT st sg).length ≤ 10003 * sg.length := by
    intro sg
    induction sg with
    | nil => exact Nat.zero_le _
    | cons x sg ih =>
      have e : fieldsT st (x :: sg) = 32 :: (pieceF st x ++ fieldsT st sg) := by simp [fieldsT]
      have := piece_len st h hp hq ha ht x
      rw [e, List.length_cons, List.length_append, List.length_cons]
      omega
  have h1 := hs (signOf st.k)
  unfold lineF
  rw [List.length_append]
  have h2 : 10003 * (signOf st.k).length ≤ 10003 * 10 := Nat.mul_le_mul_left _ hw.2.1
  omega
/-- A step that may be said, as its plain one. -/
theorem Oi.good {o : Oi} {w : World} (h : o.mayB = true) (hok : o.ok w) (hs : o.sm) : o.st.may ∧ (lineF o.st).length ≤ 100040 ∧ o.k = (o.st.k : Int) ∧ o.p = o.st.p.map (fun n : Nat => (n : Int)) ∧ o.q = o.st.q.map (fun n : Nat => (n : Int)) ∧ o.N = (o.st.n : Int) ∧ o.a.toList = o.st.a ∧ o.t.toList = o.st.t := by
  obtain ⟨st, e, h1, h2, h3, h4, h5, h6, h7⟩ := may_split h
  have e : o.st = st := e
  have hp : st.p.length ≤ 1000 := by
    have := hok.1.llen1
    rw [h2, List.length_map] at this
    have := hs.1
    omega
  have hq : st.q.length ≤ 1000 := by
    have := hok.2.llen1
    rw [h3, List.length_map] at this
    have := hs.2.1
    omega
  have ha : st.a.length ≤ 1000 := by
    rw [← h5, bytes_len]
    exact hs.2.2.1
  have ht : st.t.length ≤ 1000 := by
    rw [← h6, bytes_len]
    exact hs.2.2.2
  rw [e]
  exact ⟨h7, line_len h7.2.1 h7.2.2.1 hp hq ha ht, h1, h2, h3, h4, h5, h6⟩
theorem text_take {L : List Oi} {k : Nat} {x : Oi} (h : L[k]? = some x) : textF ((L.take (k + 1)).map Oi.st) = textF ((L.take k).map Oi.st) ++ (lineF x.st ++ [10]) := by
  rw [List.take_add_one, h]
  simp [textF]
theorem all_take {L : List Oi} {k : Nat} {x : Oi} (h : L[k]? = some x) (ha : (L.take k).all Oi.mayB = true) (hx : x.mayB = true) : (L.take (k + 1)).all Oi.mayB = true := by
  rw [List.take_add_one, h]
  rw [List.all_append, ha]
  simp [hx]
def printV (b : Bool) (X : Bs) : Value := if b then .tuple #[.string (strB X), .int .i64 0] else .tuple #[.string ⟨#[]⟩, .int .i64 1]
set_option maxRecDepth 100000 in
set_option maxHeartbeats 4000000 in
theorem print_any (A : Option Addr) (n c : Nat) (L : List Oi) (w : World) (h : Sl w 6 A n c (L.flatMap Oi.cl)) (hok : ∀ o ∈ L, o.ok w) (hsm : ∀ o ∈ L, o.sm) (hL : L.length = n) (hn : n ≤ 8) :
    Calls Tryd.prog 21 #[.slice A n c] w fun e w' => e = .returned (printV (L.all Oi.mayB) (textF (L.map Oi.st))) ∧ Kept w w' := by
  have hcap := h.cap
  have hmax := h.max
  have HB0 := Lib.hid (Bd.fresh w)
  obtain ⟨B, hB⟩ : ∃ B, w.heap.size = B := ⟨_, rfl⟩
  have k0 : Kept w (w.alloc (.cells #[.pointer none, .slice none 0 0] 62)) := (Kept.refl w).alloc _
  rw [hB] at HB0
  have HWS := Lib.hid ws_any
  have HBS := Lib.hid bs_any
  have HK : ∀ w1 w2 : World, Kept w w1 → Below B w1 w2 → Kept w w2 := by
    intro w1 w2 h1 h2
    rw [← hB] at h2
    exact Below.trans h1 h2
  have HH := Lib.hid h
  have HOK := Lib.hid hok
  have HSM := Lib.hid hsm
  have HL := Lib.hid hL
  clear h hok hsm hL
  go_enter Tryd.func21, Tryd.ntmps21
  go_upto_region 2 with fail
  generalize w.alloc (.cells #[.pointer none, .slice none 0 0] 62) = w1 at HB0 k0 ⊢
  have HB1 : Hid (Bd w1 B B (textF ((L.take 0).map Oi.st))) := HB0
  go_wp2_with fail
  go_loopw [11] (fun i wr => ∃ (k : Nat), k ≤ n ∧ i = .int .i64 k ∧ Hid (Bd wr B B (textF ((L.take k).map Oi.st))) ∧ Hid ((L.take k).all Oi.mayB = true) ∧ Hid ((textF ((L.take k).map Oi.st)).length ≤ 100041 * k) ∧ Kept w wr) (fun i _ => n - (intOf i).toNat)
  case atStart => exact ⟨0, Nat.zero_le _, rfl, HB1, rfl, by exact Nat.le_refl 0, k0⟩
  case round =>
    clear HB1 HB0 k0
    obtain ⟨k, hkn, rfl, HR, HA, HT, hk⟩ := hrel
    have hBs : B ≤ wr.heap.size := by have := hk.size; omega
    have s1 : IntKind.i64.wrap ((k : Int) + 1) = (k : Int) + 1 := IntWalk.i64_in _ (by omega)
    by_cases hlt : k < n
    · have l1 : (k : Int) < n := by omega
      have l2 : (0 : Int) ≤ k := by omega
      obtain ⟨b, i, x, rfl, hx, x0, x1, x2, x3, x4, x5, hb⟩ := (HH.out.kept hk).elemi hlt
      have hxm := List.mem_of_getElem? hx
      have hox := Oi.ok_kept (HOK.out x hxm) hk
      have hsx := HSM.out x hxm
      have HTX := Lib.hid (text_take hx)
      have HAX := Lib.hid (fun hm : x.mayB = true => all_take hx HA.out hm)
      have HAN : Hid (x.mayB = false → L.all Oi.mayB = false) := fun hm => by
        rw [Bool.eq_false_iff]
        intro h
        rw [List.all_eq_true.1 h x hxm] at hm
        cases hm
      have HGD := Lib.hid (fun hm : x.mayB = true => Oi.good hm hox hsx)
      have hC : ∀ w', Kept wr w' → Calls Tryd.prog 17 #[.agg #[.int .i64 x.k, .slice x.A x.m x.c, .slice x.B x.n x.d, .int .i64 x.N, .string x.a, .string x.t]] w' fun e w'' => e = .returned (lineV x.mayB (lineF x.st)) ∧ Kept w' w'' := fun w' kw => line_any x.k x.A x.m x.c x.p x.B x.n x.d x.q x.N x.a x.t w' (hox.1.kept kw) (hox.2.kept kw) hsx.1 hsx.2.1 hsx.2.2.1 hsx.2.2.2
      have HC := Lib.hid hC
      generalize hlx : lineF x.st = lx at HTX HC HGD
      generalize hmx : x.mayB = mx at HAX HAN HC HGD
      generalize textF ((L.take k).map Oi.st) = TX at HR HTX HT
      clear hC hlx hmx hxm hox hsx HA hx
      obtain ⟨xk, xA, xm, xc, xp, xB, xn, xd, xq, xN, xa, xt⟩ := x
      dsimp only at HC x0 x1 x2 x3 x4 x5
      have kb : Kept wr _ := (Kept.refl wr).alloc (.cells #[.int .i64 xk, .slice xA xm xc, .slice xB xn xd, .int .i64 xN, .string xa, .string xt] 37)
      have bx := Blk.new wr #[.int .i64 xk, .slice xA xm xc, .slice xB xn xd, .int .i64 xN, .string xa, .string xt] 37
      go_upto_region 5 with fail
      generalize wr.alloc (.cells #[.int .i64 xk, .slice xA xm xc, .slice xB xn xd, .int .i64 xN, .string xa, .string xt] 37) = w3 at kb bx ⊢
      obtain ⟨g3, hg3⟩ : ∃ g3, wr.heap.size = g3 := ⟨_, rfl⟩
      rw [hg3] at bx ⊢
      clear hg3
      have bc := Blk.cell bx
      have y0 : w3.cell? ⟨g3, 0, none⟩ = some (.int .i64 xk) := bc 0
      have y1 : w3.cell? ⟨g3, 1, none⟩ = some (.slice xA xm xc) := bc 1
      have y2 : w3.cell? ⟨g3, 2, none⟩ = some (.slice xB xn xd) := bc 2
      have y3 : w3.cell? ⟨g3, 3, none⟩ = some (.int .i64 xN) := bc 3
      have y4 : w3.cell? ⟨g3, 4, none⟩ = some (.string xa) := bc 4
      have y5 : w3.cell? ⟨g3, 5, none⟩ = some (.string xt) := bc 5
      clear bc x0 x1 x2 x3 x4 x5
      cases mx with
      | false =>
        have HC2 : Hid (Calls Tryd.prog 17 #[.agg #[.int .i64 xk, .slice xA xm xc, .slice xB xn xd, .int .i64 xN, .string xa, .string xt]] w3 fun e w'' => e = .returned (.tuple #[.string ⟨#[]⟩, .int .i64 1]) ∧ Kept w3 w'') := HC.out w3 kb
        have HE : Hid (L.all Oi.mayB = false) := HAN.out rfl
        clear HC HAN HAX HGD
        go_wp2_with fail
        refine HC2.out.mono ?_
        rintro e w4 ⟨rfl, k4⟩
        go_wp2_with fail
        go_ret2
        exact ⟨by rw [HE.out]; rfl, (hk.trans kb).trans k4⟩
      | true =>
        obtain ⟨LS, hLS⟩ : ∃ LS, strB lx = LS := ⟨_, rfl⟩
        have hlb : LS.toList = lx := by rw [← hLS, strB_list]
        have hlz : LS.size ≤ 100040 := by
          rw [← hLS, strB_size]
          exact (HGD.out rfl).2.1
        have HC2 : Hid (Calls Tryd.prog 17 #[.agg #[.int .i64 xk, .slice xA xm xc, .slice xB xn xd, .int .i64 xN, .string xa, .string xt]] w3 fun e w'' => e = .returned (.tuple #[.string LS, .int .i64 0]) ∧ Kept w3 w'') := by
          rw [← hLS]
          exact HC.out w3 kb
        have HE : Hid ((L.take (k + 1)).all Oi.mayB = true) := HAX.out rfl
        have HLB := Lib.hid hlb
        have HBZ : Hid ((LS ++ ⟨#[10]⟩ : ByteArray).toList = LS.toList ++ [10]) := by
          unfold Hid
          rw [toList_app, ByteArray.toList_eq ⟨#[10]⟩]
        have HZZ : Hid ((LS ++ ⟨#[10]⟩ : ByteArray).size = LS.size + 1) := by
          unfold Hid
          rw [ByteArray.size_append]
          rfl
        clear HC HAN HAX HGD hLS hlb
        go_wp2_with fail
        refine HC2.out.mono ?_
        rintro e w4 ⟨rfl, k4⟩
        have k34 := kb.trans k4
        have k04 := hk.trans k34
        have HB4 := Lib.hid (HR.out.kept k34)
        have hBs4 : B ≤ w4.heap.size := by have := k04.size; omega
        clear HC2
        go_wp2_with fail
        have HW5 : Hid (Calls Tryd.prog 29 #[.pointer (some ⟨B, 0, none⟩), .string (LS ++ ⟨#[10]⟩)] w4 fun e w' => (∃ v, e = .returned v) ∧ Bd w' B B (TX ++ (LS ++ ⟨#[10]⟩ : ByteArray).toList) ∧ Below B w4 w') := by
          have hz : (LS ++ ⟨#[10]⟩ : ByteArray).size ≤ 1000000 := by rw [HZZ.out]; omega
          have ht : TX.length ≤ 1000000 := by have := HT.out; omega
          exact (ws_any B B TX _ w4 HB4.out ht hz hBs4).mono fun e w' h => ⟨⟨_, h.1⟩, h.2⟩
        clear HWS
        refine HW5.out.mono ?_
        rintro e w5 ⟨⟨v5, rfl⟩, b5, l5⟩
        have k5 := HK _ _ k04 l5
        have HN : Hid (Bd w5 B B (textF ((L.take (k + 1)).map Oi.st))) := by
          rw [HTX.out, ← HLB.out, ← HBZ.out]
          exact b5
        have HNT : Hid ((textF ((L.take (k + 1)).map Oi.st)).length ≤ 100041 * (k + 1)) := by
          unfold Hid
          rw [HTX.out, ← HLB.out, List.length_append, List.length_append, bytes_len]
          have := HT.out
          show _ + (_ + 1) ≤ _
          omega
        clear HR HB4 b5 l5 HT HTX HBZ
        go_wp2_with fail
        go_roundw
        case rel => exact ⟨k + 1, hlt, by go_num, HN, HE, HNT, k5⟩
        case measure =>
          simp [intOf]
          omega
    · have l1 : ¬ (k : Int) < n := by omega
      have hkn : L.take k = L := List.take_of_length_le (by rw [HL.out]; omega)
      rw [hkn] at HR HA
      have HQ : Hid (∀ X, Ending.returned (.tuple #[.string (strB X), .int .i64 0]) = .returned (printV (L.all Oi.mayB) X)) := by
        intro X
        rw [HA.out]
        rfl
      clear hkn HT HA
      obtain ⟨TX, hTX⟩ : ∃ TX, textF (L.map Oi.st) = TX := ⟨_, rfl⟩
      rw [hTX] at HR
      have HTX := Lib.hid hTX
      clear hTX
      go_wp2_with fail
      refine (HBS.out B B TX wr HR.out hBs).mono ?_
      rintro e w4 ⟨rfl, l4⟩
      have k4 := HK _ _ hk l4
      go_wp2_with fail
      go_ret2
      refine ⟨?_, k4⟩
      show Ending.returned (.tuple #[.string (strB TX), .int .i64 0]) = _
      rw [HTX.out]
      exact HQ.out TX
end Go.Proofs.YtmcmicgdkdbgjaaDoor
