/- A config as text: strings.Join laid at this program, conf.Print walked (printed by wip/gen/gen_conk.py). -/
import Derived.Shelf.Strings.OnBuilder
import Derived.Test.YtmicmmbdkmmnoaaConJ
namespace Go.Proofs.Ytmicmmbdkmmnoaa
open Go.Shelf Go.RowKit
attribute [local go_sem ↓] Go.wp_at_zero Go.wp_at_succ

def joinRen : Go.Shelf.Ren := ⟨fun | 156 => 34 | 165 => 49 | 166 => 50 | 169 => 51 | 240 => 60 | 241 => 61 | 276 => 67 | 277 => 68 | n => n, fun | 0 => 0 | 3 => 3 | 4 => 4 | 5 => 5 | 9 => 9 | 20 => 20 | 31 => 51 | 37 => 89 | 70 => 90 | 72 => 92 | 75 => 95 | 76 => 96 | 80 => 98 | 127 => 115 | 164 => 125 | n => n, fun | n => n⟩
set_option maxRecDepth 100000 in
theorem joinLays : Lays.n156 Try.prog joinRen := {
  mixed := by kernel_rfl
  f156 := Try.func34.trans (congrArg some (by kernel_rfl))
  f165 := Try.func49.trans (congrArg some (by kernel_rfl))
  f166 := Try.func50.trans (congrArg some (by kernel_rfl))
  f169 := Try.func51.trans (congrArg some (by kernel_rfl))
  f240 := Try.func60.trans (congrArg some (by kernel_rfl))
  f241 := Try.func61.trans (congrArg some (by kernel_rfl))
  f276 := Try.func67.trans (congrArg some (by kernel_rfl))
  f277 := Try.func68.trans (congrArg some (by kernel_rfl))
  t0 := Try.underlying0
  a0 := Try.isAgg0
  z0 := Try.sizeOf0
  v0 := Try.zeroValue0
  t3 := Try.underlying3
  a3 := Try.isAgg3
  z3 := Try.sizeOf3
  v3 := Try.zeroValue3
  t4 := Try.underlying4
  a4 := Try.isAgg4
  z4 := Try.sizeOf4
  v4 := Try.zeroValue4
  t9 := Try.underlying9
  a9 := Try.isAgg9
  z9 := Try.sizeOf9
  v9 := Try.zeroValue9
  t20 := Try.underlying20
  a20 := Try.isAgg20
  z20 := Try.sizeOf20
  v20 := Try.zeroValue20
  t31 := Try.underlying51
  a31 := Try.isAgg51
  z31 := Try.sizeOf51
  v31 := Try.zeroValue51
  t37 := Try.underlying89
  a37 := Try.isAgg89
  z37 := Try.sizeOf89
  v37 := Try.zeroValue89
  t70 := Try.underlying90
  a70 := Try.isAgg90
  z70 := Try.sizeOf90
  v70 := Try.zeroValue90
  t72 := Try.underlying92
  a72 := Try.isAgg92
  z72 := Try.sizeOf92
  v72 := Try.zeroValue92
  t75 := Try.underlying95
  a75 := Try.isAgg95
  z75 := Try.sizeOf95
  v75 := Try.zeroValue95
  t76 := Try.underlying96
  a76 := Try.isAgg96
  z76 := Try.sizeOf96
  v76 := Try.zeroValue96
  t127 := Try.underlying115
  a127 := Try.isAgg115
  z127 := Try.sizeOf115
  v127 := Try.zeroValue115
  t164 := Try.underlying125
  a164 := Try.isAgg125
  z164 := Try.sizeOf125
  v164 := Try.zeroValue125 }
theorem joinX : Builder.Extra Try.prog joinRen where
  sizeBuilder := by kernel_rfl
  liesBuilder := by kernel_rfl
  t5 := Try.underlying5
  a5 := Try.isAgg5
  z5 := Try.sizeOf5
  v5 := Try.zeroValue5
  infoByte := by kernel_rfl
  cellsByte := by kernel_rfl
  sizeByte := by kernel_rfl
  neB5 := by decide
theorem join_any (A : Option Addr) (n c : Nat) (L : List ByteArray) (w : World) (h : Sl w 1 A n c (L.map Value.string)) (h0 : 0 < n) (hn : n ≤ 100000) (hlen : (Lib.join (L.map (·.data.toList)) [32]).length ≤ 100000) :
    Calls Try.prog 34 #[.slice A n c, .string ⟨#[32]⟩] w fun e w' => e = .returned (.string (joinS L)) ∧ Kept w w' := by
  have hl := h.llen1
  have hcap := h.cap
  obtain ⟨b, o, x, rfl, hx, x0⟩ := h.one h0
  have hbl := World.block_lt_of_cell? _ _ x0
  obtain ⟨b', o', e, hc⟩ := h.at_ h0
  injection e with e
  injection e with e1 e2
  subst e1 e2
  subst hl
  exact Any.strings_Join joinLays joinX b o c L ⟨#[32]⟩ w (fun j x hx => hc j _ (by rw [List.getElem?_map, hx]; rfl)) hbl (by omega) hcap (by show (Lib.join (L.map (·.data.toList)) [32]).length ≤ _; omega)
theorem dS_size (n : Nat) (h : n < 10000) : (dS n).size ≤ 4 := by
  have := dec_max n 3 (by omega)
  rw [← bytes_len, dS_list]
  exact this
set_option maxRecDepth 100000 in
theorem digits_any : ∀ (N : Nat), N < 10000 → ∀ (w : World), Calls Try.prog 33 #[.int .i64 N] w fun e w' => e = .returned (.string (dS N)) ∧ Kept w w' := by
  intro N
  induction N using Nat.strongRecOn with
  | ind N ih =>
    intro hN w
    by_cases h10 : N < 10
    · have hd := decF_lt h10
      have HD := Lib.hid hd
      have hS := Sl.lit1 (w := w) (t := 5) (enc := Value.int .u8) (cs := [.int .u8 (48 + (N : Int))]) (n := 1) (l := [48 + (N : Int)]) rfl rfl (by omega)
      have hcv := run_str (P := Try.prog) Try.underlying89 Try.underlying5 Try.underlying9 hS
      have h1 := strOf1 N
      rw [show (N : Int) % 10 = N by omega] at h1
      generalize strOfNums [48 + (N : Int)] = d at hcv h1
      have H1 := Lib.hid h1
      have m1 : IntKind.u8.wrap (48 + (N : Int)) = 48 + N := by
        simp [IntKind.wrap, IntKind.bits, IntKind.signed]
        omega
      clear h1 hd hS
      go_enter Try.func33, Try.ntmps33
      go_wp2_with fail
      go_ret
      refine ⟨congrArg (fun x => Ending.returned (.string x)) ?_, (Kept.refl _).alloc _⟩
      apply str_eq
      rw [dS_list, HD.out, H1.out, Nat.mod_eq_of_lt h10]
    · have hd := decF_ge h10
      have HD := Lib.hid hd
      obtain ⟨q, hq⟩ : ∃ q : Int, (N : Int) / 10 = q := ⟨_, rfl⟩
      obtain ⟨m, hm⟩ : ∃ m : Int, (N : Int) % 10 = m := ⟨_, rfl⟩
      have h1 := fun w => ih (N / 10) (by omega) (by omega) w
      have h2 := fun w => ih (N % 10) (by omega) (by omega) w
      rw [show ((N / 10 : Nat) : Int) = q by omega] at h1
      rw [show ((N % 10 : Nat) : Int) = m by omega] at h2
      have s1 := dS_size (N / 10) (by omega)
      have s2 := dS_size (N % 10) (by omega)
      obtain ⟨d1, hd1⟩ : ∃ d, dS (N / 10) = d := ⟨_, rfl⟩
      obtain ⟨d2, hd2⟩ : ∃ d, dS (N % 10) = d := ⟨_, rfl⟩
      rw [hd1] at h1 s1
      rw [hd2] at h2 s2
      have H1 := Lib.hid h1
      have H2 := Lib.hid h2
      have E1 := Lib.hid hd1
      have E2 := Lib.hid hd2
      clear h1 h2 hd1 hd2 ih hd
      go_enter Try.func33, Try.ntmps33
      go_wp2_with fail
      refine (H1.out _).mono ?_
      rintro e w2 ⟨rfl, k2⟩
      go_wp2_with fail
      refine (H2.out _).mono ?_
      rintro e w3 ⟨rfl, k3⟩
      go_wp2_with fail
      go_ret
      refine ⟨congrArg (fun x => Ending.returned (.string x)) ?_, k2.trans k3⟩
      apply str_eq
      rw [toList_app, ← E1.out, ← E2.out, dS_list, dS_list, dS_list, HD.out, decF_lt (Nat.mod_lt _ (by omega))]
def wlist (n0 n1 n2 n3 n4 : Nat) (t r : Bool) : List ByteArray := [⟨#[105, 110, 100, 101, 110, 116, 61]⟩ ++ dS n0, ⟨#[119, 105, 100, 116, 104, 61]⟩ ++ dS n1, ⟨#[113, 117, 111, 116, 101, 61]⟩ ++ dS n2, ⟨#[101, 109, 112, 116, 121, 61]⟩ ++ dS n3, ⟨#[108, 105, 110, 101, 61]⟩ ++ dS n4] ++ (if t then [⟨#[116, 97, 98, 115]⟩] else []) ++ (if r then [⟨#[119, 114, 97, 112]⟩] else [])
theorem wlist_eq (n0 n1 n2 n3 n4 : Nat) (t r : Bool) : wordsC ⟨n0, n1, n2, n3, n4, t, r⟩ = wlist n0 n1 n2 n3 n4 t r := by
  unfold wordsC wlist fw
  simp only [Int.toNat_natCast]
  rfl
theorem join_len : ∀ (L : List ByteArray), (∀ x ∈ L, x.size ≤ 11) → (Lib.join (L.map (·.data.toList)) [32]).length ≤ 12 * L.length
  | [], _ => by simp [Lib.join, List.intercalate]
  | [x], h => by
    rw [List.map_cons, List.map_nil, Lib.join_one]
    have := h x (by simp)
    have e : x.data.toList.length = x.size := rfl
    simp
    omega
  | x :: y :: L, h => by
    have ih := join_len (y :: L) (fun z hz => h z (by simp [hz]))
    have e : Lib.join ((x :: y :: L).map (·.data.toList)) [32] = x.data.toList ++ 32 :: Lib.join ((y :: L).map (·.data.toList)) [32] := by
      simp only [List.map_cons]
      rw [Lib.join_cons, Lib.join_cons]
      simp [Lib.joinTail]
    rw [e, List.length_append, List.length_cons]
    have := h x (by simp)
    have e : x.data.toList.length = x.size := rfl
    simp at ih ⊢
    omega
set_option maxRecDepth 100000 in
set_option maxHeartbeats 32000000 in
theorem print_any (c : Cf) (w : World) : Calls Try.prog 19 #[c.val] w fun e w' => e = .returned (.string (textF c)) ∧ Kept w w' := by
  have hc := fun w => clamp_any c w
  have HT : Hid (textF c = joinS (wordsC (clampF c))) := rfl
  obtain ⟨T, hT⟩ : ∃ T, textF c = T := ⟨_, rfl⟩
  rw [hT] at HT ⊢
  obtain ⟨n0, n1, n2, n3, n4, hcl, b0, b1, b1', b2, b3, b4⟩ := clamp_nat c
  obtain ⟨ci, cd, cq, ce, cl, t, r⟩ := c
  dsimp only at hcl
  rw [hcl, wlist_eq] at HT
  rw [hcl] at hc
  have hfl := fun g w (hb : Blk w g #[.int .i64 (n0 : Int), .int .i64 (n1 : Int), .int .i64 (n2 : Int), .int .i64 (n3 : Int), .int .i64 (n4 : Int), .bool t, .bool r] 23) => fields_any g ⟨n0, n1, n2, n3, n4, t, r⟩ w hb
  have HF := Lib.hid hfl
  have HC := Lib.hid hc
  clear hc hT hcl hfl
  unfold Cf.val at HC ⊢
  go_enter Try.func19, Try.ntmps19
  go_upto_region 1 with fail
  have kw := (Kept.refl w).alloc (.cells #[.int .i64 ci, .int .i64 cd, .int .i64 cq, .int .i64 ce, .int .i64 cl, .bool t, .bool r] 23)
  have bg := Blk.new w #[.int .i64 ci, .int .i64 cd, .int .i64 cq, .int .i64 ce, .int .i64 cl, .bool t, .bool r] 23
  generalize w.alloc (.cells #[.int .i64 ci, .int .i64 cd, .int .i64 cq, .int .i64 ce, .int .i64 cl, .bool t, .bool r] 23) = w1 at kw bg ⊢
  obtain ⟨g, hg⟩ : ∃ g, w.heap.size = g := ⟨_, rfl⟩
  have hg0 : w.heap.size ≤ g := by omega
  rw [hg] at bg ⊢
  clear hg
  have cg := bg.cell
  have fg := bg.frozen
  have lg := bg.lt
  go_wp2_with fail
  refine (HC.out _).mono ?_
  rintro e w2 ⟨rfl, k2⟩
  have bg2 := bg.kept k2
  clear cg fg lg
  have cg := bg2.cell
  have fg := bg2.frozen
  have lg := bg2.lt
  go_upto_region 2 with fail
  have bs : Blk (w2.setCell ⟨g, 0, none⟩ (.int .i64 (n0 : Int)) |>.setCell ⟨g, 1, none⟩ (.int .i64 (n1 : Int)) |>.setCell ⟨g, 2, none⟩ (.int .i64 (n2 : Int)) |>.setCell ⟨g, 3, none⟩ (.int .i64 (n3 : Int)) |>.setCell ⟨g, 4, none⟩ (.int .i64 (n4 : Int)) |>.setCell ⟨g, 5, none⟩ (.bool t) |>.setCell ⟨g, 6, none⟩ (.bool r)) g #[.int .i64 (n0 : Int), .int .i64 (n1 : Int), .int .i64 (n2 : Int), .int .i64 (n3 : Int), .int .i64 (n4 : Int), .bool t, .bool r] 23 :=
    ((((((bg2.set 0 _).set 1 _).set 2 _).set 3 _).set 4 _).set 5 _).set 6 _
  have ks : Kept w (w2.setCell ⟨g, 0, none⟩ (.int .i64 (n0 : Int)) |>.setCell ⟨g, 1, none⟩ (.int .i64 (n1 : Int)) |>.setCell ⟨g, 2, none⟩ (.int .i64 (n2 : Int)) |>.setCell ⟨g, 3, none⟩ (.int .i64 (n3 : Int)) |>.setCell ⟨g, 4, none⟩ (.int .i64 (n4 : Int)) |>.setCell ⟨g, 5, none⟩ (.bool t) |>.setCell ⟨g, 6, none⟩ (.bool r)) :=
    (((((((kw.trans k2).setCell hg0 _).setCell hg0 _).setCell hg0 _).setCell hg0 _).setCell hg0 _).setCell hg0 _).setCell hg0 _
  generalize (w2.setCell ⟨g, 0, none⟩ (.int .i64 (n0 : Int)) |>.setCell ⟨g, 1, none⟩ (.int .i64 (n1 : Int)) |>.setCell ⟨g, 2, none⟩ (.int .i64 (n2 : Int)) |>.setCell ⟨g, 3, none⟩ (.int .i64 (n3 : Int)) |>.setCell ⟨g, 4, none⟩ (.int .i64 (n4 : Int)) |>.setCell ⟨g, 5, none⟩ (.bool t) |>.setCell ⟨g, 6, none⟩ (.bool r)) = w3 at bs ks ⊢
  clear cg fg lg bg bg2 kw k2
  go_wp2_with fail
  refine (HF.out _ _ bs).mono ?_
  rintro e w4 ⟨rfl, k4⟩
  have b4' := bs.kept k4
  have K4 := ks.trans k4
  have lg := b4'.lt
  have cgW : ∀ i, w4.cell? ⟨g, i, none⟩ = (#[.int .i64 (n0 : Int), .int .i64 (n1 : Int), .int .i64 (n2 : Int), .int .i64 (n3 : Int), .int .i64 (n4 : Int), .bool t, .bool r] : Array Value)[i]? := b4'.cell
  have HCG := Lib.hid cgW
  clear bs ks k4 cgW HF HC
  go_wp2_with fail
  refine wp_loop_rounds 6 ?_
  have hown0 : w4.ownsRow w4.heap.size 9 1 (.slice none 0 0) 0 (([] : List ByteArray).map Value.string) := World.ownsRow_nil _ _ _ _
  have hk0 := Kept.refl w4
  rw [rounds_succ]
  have hix0 := index0 g w4
  go_upto_region 6 with fail
  have kb0 := hk0.alloc (.cells #[.string ⟨#[105, 110, 100, 101, 110, 116, 61]⟩, .pointer (some ⟨g, 0, none⟩)] 62)
  have bx0 := Blk.new w4 #[.string ⟨#[105, 110, 100, 101, 110, 116, 61]⟩, .pointer (some ⟨g, 0, none⟩)] 62
  have ow0 := hown0.alloc (.cells #[.string ⟨#[105, 110, 100, 101, 110, 116, 61]⟩, .pointer (some ⟨g, 0, none⟩)] 62)
  generalize w4.alloc (.cells #[.string ⟨#[105, 110, 100, 101, 110, 116, 61]⟩, .pointer (some ⟨g, 0, none⟩)] 62) = v0 at kb0 bx0 ow0 ⊢
  obtain ⟨p0, hp0⟩ : ∃ p, w4.heap.size = p := ⟨_, rfl⟩
  have np0 : some p0 ≠ ((.slice none 0 0 : Value)).ownBlock := by
    intro e
    have := hown0.lt _ e.symm
    omega
  have ng0 : some g ≠ ((.slice none 0 0 : Value)).ownBlock := by
    intro e
    have := hown0.lt _ e.symm
    omega
  rw [hp0] at bx0 ⊢
  clear hp0
  have a0 : v0.cell? ⟨p0, 0, none⟩ = some (.string ⟨#[105, 110, 100, 101, 110, 116, 61]⟩) := bx0.cell 0
  have a1 : v0.cell? ⟨p0, 1, none⟩ = some (.pointer (some ⟨g, 0, none⟩)) := bx0.cell 1
  have a2 : v0.cell? ⟨g, 0, none⟩ = some (.int .i64 (n0 : Int)) := kb0.cell (HCG.out 0)
  have hd := fun w => digits_any n0 (by omega) w
  have hds := dS_size n0 (by omega)
  obtain ⟨d0, hd0⟩ : ∃ d, dS n0 = d := ⟨_, rfl⟩
  rw [hd0] at hd hds
  have HD := Lib.hid hd
  have E0 := Lib.hid hd0
  obtain ⟨kk0, hkk0⟩ : ∃ kk : ByteArray, (⟨#[105, 110, 100, 101, 110, 116, 61]⟩ : ByteArray) = kk := ⟨_, rfl⟩
  have hsz : kk0.size = 7 := by rw [← hkk0]; rfl
  rw [hkk0] at a0
  have HKK0 := Lib.hid hkk0
  have HSZ0 := Lib.hid hsz
  have hlim : ¬ ((9223372036854775807 : Int) < ((kk0.size + d0.size : Nat) : Int)) := by omega
  have hlim2 : ¬ ((9223372036854775807 : Int) < (kk0.size : Int) + (d0.size : Int)) := by omega
  have hlim3 : ¬ (9223372036854775807 < kk0.size + d0.size) := by omega
  have hlim4 : ¬ (9223372036854775807 < 7 + d0.size) := by omega
  clear hkk0
  clear hd hd0 hix0
  go_region_held3 (fun w' => w'.cell? ⟨p0, 0, none⟩ = some (.string kk0) ∧ w'.cell? ⟨p0, 1, none⟩ = some (.pointer (some ⟨g, 0, none⟩)) ∧ w'.cell? ⟨g, 0, none⟩ = some (.int .i64 (n0 : Int))) (first | go_keep | exact ⟨hq4.cell a0, hq4.cell a1, hq4.cell a2⟩ | exact ⟨grown_cell hgr5 (((Kept.refl _).alloc _).cell (hq4.cell a0)) np0, grown_cell hgr5 (((Kept.refl _).alloc _).cell (hq4.cell a1)) np0, grown_cell hgr5 (((Kept.refl _).alloc _).cell (hq4.cell a2)) ng0⟩)
      (first
      | (go_at_call 33; refine (HD.out _).mono ?_; rintro e w5 ⟨rfl, hq4⟩)
      | (refine step_app w4 (by rfl) _ _ (by rfl) appT_str (by rfl) ((own_kept ow0.drew hq4).alloc _) ((kb0.drew.trans hq4).alloc _) (by rfl) (Sl.litg (by rfl) (by rfl) (by omega)) ⟨by rfl, by omega⟩ ?_; intro y0 x0 hown1 hk1 hgr5 hob5))
  clear hgr5 hob5 a0 a1 a2 hq4 hlim hlim2 hlim3 hlim4 hsz hds HD kb0 bx0 ow0
  go_wp2_with fail
  rw [rounds_succ]
  have hix1 := index1 g x0
  go_upto_region 6 with fail
  have kb1 := hk1.alloc (.cells #[.string ⟨#[119, 105, 100, 116, 104, 61]⟩, .pointer (some ⟨g, 1, none⟩)] 62)
  have bx1 := Blk.new x0 #[.string ⟨#[119, 105, 100, 116, 104, 61]⟩, .pointer (some ⟨g, 1, none⟩)] 62
  have ow1 := hown1.alloc (.cells #[.string ⟨#[119, 105, 100, 116, 104, 61]⟩, .pointer (some ⟨g, 1, none⟩)] 62)
  generalize x0.alloc (.cells #[.string ⟨#[119, 105, 100, 116, 104, 61]⟩, .pointer (some ⟨g, 1, none⟩)] 62) = v1 at kb1 bx1 ow1 ⊢
  obtain ⟨p1, hp1⟩ : ∃ p, x0.heap.size = p := ⟨_, rfl⟩
  have np1 : some p1 ≠ (y0).ownBlock := by
    intro e
    have := hown1.lt _ e.symm
    omega
  have ng1 : some g ≠ (y0).ownBlock := by
    intro e
    have := hown1.lt _ e.symm
    omega
  rw [hp1] at bx1 ⊢
  clear hp1
  have a0 : v1.cell? ⟨p1, 0, none⟩ = some (.string ⟨#[119, 105, 100, 116, 104, 61]⟩) := bx1.cell 0
  have a1 : v1.cell? ⟨p1, 1, none⟩ = some (.pointer (some ⟨g, 1, none⟩)) := bx1.cell 1
  have a2 : v1.cell? ⟨g, 1, none⟩ = some (.int .i64 (n1 : Int)) := kb1.cell (HCG.out 1)
  have hd := fun w => digits_any n1 (by omega) w
  have hds := dS_size n1 (by omega)
  obtain ⟨d1, hd1⟩ : ∃ d, dS n1 = d := ⟨_, rfl⟩
  rw [hd1] at hd hds
  have HD := Lib.hid hd
  have E1 := Lib.hid hd1
  obtain ⟨kk1, hkk1⟩ : ∃ kk : ByteArray, (⟨#[119, 105, 100, 116, 104, 61]⟩ : ByteArray) = kk := ⟨_, rfl⟩
  have hsz : kk1.size = 6 := by rw [← hkk1]; rfl
  rw [hkk1] at a0
  have HKK1 := Lib.hid hkk1
  have HSZ1 := Lib.hid hsz
  have hlim : ¬ ((9223372036854775807 : Int) < ((kk1.size + d1.size : Nat) : Int)) := by omega
  have hlim2 : ¬ ((9223372036854775807 : Int) < (kk1.size : Int) + (d1.size : Int)) := by omega
  have hlim3 : ¬ (9223372036854775807 < kk1.size + d1.size) := by omega
  have hlim4 : ¬ (9223372036854775807 < 6 + d1.size) := by omega
  clear hkk1
  clear hd hd1 hix1
  go_region_held3 (fun w' => w'.cell? ⟨p1, 0, none⟩ = some (.string kk1) ∧ w'.cell? ⟨p1, 1, none⟩ = some (.pointer (some ⟨g, 1, none⟩)) ∧ w'.cell? ⟨g, 1, none⟩ = some (.int .i64 (n1 : Int))) (first | go_keep | exact ⟨hq4.cell a0, hq4.cell a1, hq4.cell a2⟩ | exact ⟨grown_cell hgr5 (((Kept.refl _).alloc _).cell (hq4.cell a0)) np1, grown_cell hgr5 (((Kept.refl _).alloc _).cell (hq4.cell a1)) np1, grown_cell hgr5 (((Kept.refl _).alloc _).cell (hq4.cell a2)) ng1⟩)
      (first
      | (go_at_call 33; refine (HD.out _).mono ?_; rintro e w5 ⟨rfl, hq4⟩)
      | (refine step_app w4 (by rfl) _ _ (by rfl) appT_str (by rfl) ((own_kept ow1.drew hq4).alloc _) ((kb1.drew.trans hq4).alloc _) (by rfl) (Sl.litg (by rfl) (by rfl) (by omega)) ⟨by rfl, by omega⟩ ?_; intro y1 x1 hown2 hk2 hgr5 hob5))
  clear hgr5 hob5 a0 a1 a2 hq4 hlim hlim2 hlim3 hlim4 hsz hds HD kb1 bx1 ow1
  go_wp2_with fail
  rw [rounds_succ]
  have hix2 := index2 g x1
  go_upto_region 6 with fail
  have kb2 := hk2.alloc (.cells #[.string ⟨#[113, 117, 111, 116, 101, 61]⟩, .pointer (some ⟨g, 2, none⟩)] 62)
  have bx2 := Blk.new x1 #[.string ⟨#[113, 117, 111, 116, 101, 61]⟩, .pointer (some ⟨g, 2, none⟩)] 62
  have ow2 := hown2.alloc (.cells #[.string ⟨#[113, 117, 111, 116, 101, 61]⟩, .pointer (some ⟨g, 2, none⟩)] 62)
  generalize x1.alloc (.cells #[.string ⟨#[113, 117, 111, 116, 101, 61]⟩, .pointer (some ⟨g, 2, none⟩)] 62) = v2 at kb2 bx2 ow2 ⊢
  obtain ⟨p2, hp2⟩ : ∃ p, x1.heap.size = p := ⟨_, rfl⟩
  have np2 : some p2 ≠ (y1).ownBlock := by
    intro e
    have := hown2.lt _ e.symm
    omega
  have ng2 : some g ≠ (y1).ownBlock := by
    intro e
    have := hown2.lt _ e.symm
    omega
  rw [hp2] at bx2 ⊢
  clear hp2
  have a0 : v2.cell? ⟨p2, 0, none⟩ = some (.string ⟨#[113, 117, 111, 116, 101, 61]⟩) := bx2.cell 0
  have a1 : v2.cell? ⟨p2, 1, none⟩ = some (.pointer (some ⟨g, 2, none⟩)) := bx2.cell 1
  have a2 : v2.cell? ⟨g, 2, none⟩ = some (.int .i64 (n2 : Int)) := kb2.cell (HCG.out 2)
  have hd := fun w => digits_any n2 (by omega) w
  have hds := dS_size n2 (by omega)
  obtain ⟨d2, hd2⟩ : ∃ d, dS n2 = d := ⟨_, rfl⟩
  rw [hd2] at hd hds
  have HD := Lib.hid hd
  have E2 := Lib.hid hd2
  obtain ⟨kk2, hkk2⟩ : ∃ kk : ByteArray, (⟨#[113, 117, 111, 116, 101, 61]⟩ : ByteArray) = kk := ⟨_, rfl⟩
  have hsz : kk2.size = 6 := by rw [← hkk2]; rfl
  rw [hkk2] at a0
  have HKK2 := Lib.hid hkk2
  have HSZ2 := Lib.hid hsz
  have hlim : ¬ ((9223372036854775807 : Int) < ((kk2.size + d2.size : Nat) : Int)) := by omega
  have hlim2 : ¬ ((9223372036854775807 : Int) < (kk2.size : Int) + (d2.size : Int)) := by omega
  have hlim3 : ¬ (9223372036854775807 < kk2.size + d2.size) := by omega
  have hlim4 : ¬ (9223372036854775807 < 6 + d2.size) := by omega
  clear hkk2
  clear hd hd2 hix2
  go_region_held3 (fun w' => w'.cell? ⟨p2, 0, none⟩ = some (.string kk2) ∧ w'.cell? ⟨p2, 1, none⟩ = some (.pointer (some ⟨g, 2, none⟩)) ∧ w'.cell? ⟨g, 2, none⟩ = some (.int .i64 (n2 : Int))) (first | go_keep | exact ⟨hq4.cell a0, hq4.cell a1, hq4.cell a2⟩ | exact ⟨grown_cell hgr5 (((Kept.refl _).alloc _).cell (hq4.cell a0)) np2, grown_cell hgr5 (((Kept.refl _).alloc _).cell (hq4.cell a1)) np2, grown_cell hgr5 (((Kept.refl _).alloc _).cell (hq4.cell a2)) ng2⟩)
      (first
      | (go_at_call 33; refine (HD.out _).mono ?_; rintro e w5 ⟨rfl, hq4⟩)
      | (refine step_app w4 (by rfl) _ _ (by rfl) appT_str (by rfl) ((own_kept ow2.drew hq4).alloc _) ((kb2.drew.trans hq4).alloc _) (by rfl) (Sl.litg (by rfl) (by rfl) (by omega)) ⟨by rfl, by omega⟩ ?_; intro y2 x2 hown3 hk3 hgr5 hob5))
  clear hgr5 hob5 a0 a1 a2 hq4 hlim hlim2 hlim3 hlim4 hsz hds HD kb2 bx2 ow2
  go_wp2_with fail
  rw [rounds_succ]
  have hix3 := index3 g x2
  go_upto_region 6 with fail
  have kb3 := hk3.alloc (.cells #[.string ⟨#[101, 109, 112, 116, 121, 61]⟩, .pointer (some ⟨g, 3, none⟩)] 62)
  have bx3 := Blk.new x2 #[.string ⟨#[101, 109, 112, 116, 121, 61]⟩, .pointer (some ⟨g, 3, none⟩)] 62
  have ow3 := hown3.alloc (.cells #[.string ⟨#[101, 109, 112, 116, 121, 61]⟩, .pointer (some ⟨g, 3, none⟩)] 62)
  generalize x2.alloc (.cells #[.string ⟨#[101, 109, 112, 116, 121, 61]⟩, .pointer (some ⟨g, 3, none⟩)] 62) = v3 at kb3 bx3 ow3 ⊢
  obtain ⟨p3, hp3⟩ : ∃ p, x2.heap.size = p := ⟨_, rfl⟩
  have np3 : some p3 ≠ (y2).ownBlock := by
    intro e
    have := hown3.lt _ e.symm
    omega
  have ng3 : some g ≠ (y2).ownBlock := by
    intro e
    have := hown3.lt _ e.symm
    omega
  rw [hp3] at bx3 ⊢
  clear hp3
  have a0 : v3.cell? ⟨p3, 0, none⟩ = some (.string ⟨#[101, 109, 112, 116, 121, 61]⟩) := bx3.cell 0
  have a1 : v3.cell? ⟨p3, 1, none⟩ = some (.pointer (some ⟨g, 3, none⟩)) := bx3.cell 1
  have a2 : v3.cell? ⟨g, 3, none⟩ = some (.int .i64 (n3 : Int)) := kb3.cell (HCG.out 3)
  have hd := fun w => digits_any n3 (by omega) w
  have hds := dS_size n3 (by omega)
  obtain ⟨d3, hd3⟩ : ∃ d, dS n3 = d := ⟨_, rfl⟩
  rw [hd3] at hd hds
  have HD := Lib.hid hd
  have E3 := Lib.hid hd3
  obtain ⟨kk3, hkk3⟩ : ∃ kk : ByteArray, (⟨#[101, 109, 112, 116, 121, 61]⟩ : ByteArray) = kk := ⟨_, rfl⟩
  have hsz : kk3.size = 6 := by rw [← hkk3]; rfl
  rw [hkk3] at a0
  have HKK3 := Lib.hid hkk3
  have HSZ3 := Lib.hid hsz
  have hlim : ¬ ((9223372036854775807 : Int) < ((kk3.size + d3.size : Nat) : Int)) := by omega
  have hlim2 : ¬ ((9223372036854775807 : Int) < (kk3.size : Int) + (d3.size : Int)) := by omega
  have hlim3 : ¬ (9223372036854775807 < kk3.size + d3.size) := by omega
  have hlim4 : ¬ (9223372036854775807 < 6 + d3.size) := by omega
  clear hkk3
  clear hd hd3 hix3
  go_region_held3 (fun w' => w'.cell? ⟨p3, 0, none⟩ = some (.string kk3) ∧ w'.cell? ⟨p3, 1, none⟩ = some (.pointer (some ⟨g, 3, none⟩)) ∧ w'.cell? ⟨g, 3, none⟩ = some (.int .i64 (n3 : Int))) (first | go_keep | exact ⟨hq4.cell a0, hq4.cell a1, hq4.cell a2⟩ | exact ⟨grown_cell hgr5 (((Kept.refl _).alloc _).cell (hq4.cell a0)) np3, grown_cell hgr5 (((Kept.refl _).alloc _).cell (hq4.cell a1)) np3, grown_cell hgr5 (((Kept.refl _).alloc _).cell (hq4.cell a2)) ng3⟩)
      (first
      | (go_at_call 33; refine (HD.out _).mono ?_; rintro e w5 ⟨rfl, hq4⟩)
      | (refine step_app w4 (by rfl) _ _ (by rfl) appT_str (by rfl) ((own_kept ow3.drew hq4).alloc _) ((kb3.drew.trans hq4).alloc _) (by rfl) (Sl.litg (by rfl) (by rfl) (by omega)) ⟨by rfl, by omega⟩ ?_; intro y3 x3 hown4 hk4 hgr5 hob5))
  clear hgr5 hob5 a0 a1 a2 hq4 hlim hlim2 hlim3 hlim4 hsz hds HD kb3 bx3 ow3
  go_wp2_with fail
  rw [rounds_succ]
  have hix4 := index4 g x3
  go_upto_region 6 with fail
  have kb4 := hk4.alloc (.cells #[.string ⟨#[108, 105, 110, 101, 61]⟩, .pointer (some ⟨g, 4, none⟩)] 62)
  have bx4 := Blk.new x3 #[.string ⟨#[108, 105, 110, 101, 61]⟩, .pointer (some ⟨g, 4, none⟩)] 62
  have ow4 := hown4.alloc (.cells #[.string ⟨#[108, 105, 110, 101, 61]⟩, .pointer (some ⟨g, 4, none⟩)] 62)
  generalize x3.alloc (.cells #[.string ⟨#[108, 105, 110, 101, 61]⟩, .pointer (some ⟨g, 4, none⟩)] 62) = v4 at kb4 bx4 ow4 ⊢
  obtain ⟨p4, hp4⟩ : ∃ p, x3.heap.size = p := ⟨_, rfl⟩
  have np4 : some p4 ≠ (y3).ownBlock := by
    intro e
    have := hown4.lt _ e.symm
    omega
  have ng4 : some g ≠ (y3).ownBlock := by
    intro e
    have := hown4.lt _ e.symm
    omega
  rw [hp4] at bx4 ⊢
  clear hp4
  have a0 : v4.cell? ⟨p4, 0, none⟩ = some (.string ⟨#[108, 105, 110, 101, 61]⟩) := bx4.cell 0
  have a1 : v4.cell? ⟨p4, 1, none⟩ = some (.pointer (some ⟨g, 4, none⟩)) := bx4.cell 1
  have a2 : v4.cell? ⟨g, 4, none⟩ = some (.int .i64 (n4 : Int)) := kb4.cell (HCG.out 4)
  have hd := fun w => digits_any n4 (by omega) w
  have hds := dS_size n4 (by omega)
  obtain ⟨d4, hd4⟩ : ∃ d, dS n4 = d := ⟨_, rfl⟩
  rw [hd4] at hd hds
  have HD := Lib.hid hd
  have E4 := Lib.hid hd4
  obtain ⟨kk4, hkk4⟩ : ∃ kk : ByteArray, (⟨#[108, 105, 110, 101, 61]⟩ : ByteArray) = kk := ⟨_, rfl⟩
  have hsz : kk4.size = 5 := by rw [← hkk4]; rfl
  rw [hkk4] at a0
  have HKK4 := Lib.hid hkk4
  have HSZ4 := Lib.hid hsz
  have hlim : ¬ ((9223372036854775807 : Int) < ((kk4.size + d4.size : Nat) : Int)) := by omega
  have hlim2 : ¬ ((9223372036854775807 : Int) < (kk4.size : Int) + (d4.size : Int)) := by omega
  have hlim3 : ¬ (9223372036854775807 < kk4.size + d4.size) := by omega
  have hlim4 : ¬ (9223372036854775807 < 5 + d4.size) := by omega
  clear hkk4
  clear hd hd4 hix4
  go_region_held3 (fun w' => w'.cell? ⟨p4, 0, none⟩ = some (.string kk4) ∧ w'.cell? ⟨p4, 1, none⟩ = some (.pointer (some ⟨g, 4, none⟩)) ∧ w'.cell? ⟨g, 4, none⟩ = some (.int .i64 (n4 : Int))) (first | go_keep | exact ⟨hq4.cell a0, hq4.cell a1, hq4.cell a2⟩ | exact ⟨grown_cell hgr5 (((Kept.refl _).alloc _).cell (hq4.cell a0)) np4, grown_cell hgr5 (((Kept.refl _).alloc _).cell (hq4.cell a1)) np4, grown_cell hgr5 (((Kept.refl _).alloc _).cell (hq4.cell a2)) ng4⟩)
      (first
      | (go_at_call 33; refine (HD.out _).mono ?_; rintro e w5 ⟨rfl, hq4⟩)
      | (refine step_app w4 (by rfl) _ _ (by rfl) appT_str (by rfl) ((own_kept ow4.drew hq4).alloc _) ((kb4.drew.trans hq4).alloc _) (by rfl) (Sl.litg (by rfl) (by rfl) (by omega)) ⟨by rfl, by omega⟩ ?_; intro y4 x4 hown5 hk5 hgr5 hob5))
  clear hgr5 hob5 a0 a1 a2 hq4 hlim hlim2 hlim3 hlim4 hsz hds HD kb4 bx4 ow4
  go_wp2_with fail
  rw [rounds_succ]
  have ng5 : some g ≠ y4.ownBlock := by
    intro e
    have := hown5.lt _ e.symm
    omega
  have ct := hk5.cell (HCG.out 5)
  have cr := hk5.cell (HCG.out 6)
  cases t
  · cases r
    · skip
      have hownL : x4.ownsRow w4.heap.size 9 1 y4 5 (([kk0 ++ d0, kk1 ++ d1, kk2 ++ d2, kk3 ++ d3, kk4 ++ d4] : List ByteArray).map Value.string) := hown5
      obtain ⟨VA, VC, hye, hV⟩ := Sl.of_own hownL
      subst hye
      have hj := join_any VA 5 VC _ _ hV (by omega) (by omega) (by
        refine Nat.le_trans (join_len _ ?_) (by show 12 * 5 ≤ 100000; omega)
        intro x hx
        simp only [List.mem_cons, List.not_mem_nil, or_false] at hx
        rcases hx with rfl | rfl | rfl | rfl | rfl
        · rw [ByteArray.size_append]; have := HSZ0.out; have := dS_size n0 (by omega); rw [E0.out] at this; omega
        · rw [ByteArray.size_append]; have := HSZ1.out; have := dS_size n1 (by omega); rw [E1.out] at this; omega
        · rw [ByteArray.size_append]; have := HSZ2.out; have := dS_size n2 (by omega); rw [E2.out] at this; omega
        · rw [ByteArray.size_append]; have := HSZ3.out; have := dS_size n3 (by omega); rw [E3.out] at this; omega
        · rw [ByteArray.size_append]; have := HSZ4.out; have := dS_size n4 (by omega); rw [E4.out] at this; omega
      )
      have hE : T = joinS [kk0 ++ d0, kk1 ++ d1, kk2 ++ d2, kk3 ++ d3, kk4 ++ d4] := by
        rw [HT.out, ← E0.out, ← E1.out, ← E2.out, ← E3.out, ← E4.out, ← HKK0.out, ← HKK1.out, ← HKK2.out, ← HKK3.out, ← HKK4.out]
        rfl
      rw [← hE] at hj
      have HJ := Lib.hid hj
      clear hj hE hV hownL
      go_wp2_with fail
      refine HJ.out.mono ?_
      rintro e w9 ⟨rfl, k9⟩
      go_wp2_with fail
      go_ret
      exact ⟨rfl, (K4.trans hk5).trans k9⟩
    · skip
      go_wp2_with (at_builtin; refine wpList_push w4 (by rfl) _ _ (by rfl) appT_str (by rfl) hown5 hk5 (by rfl) (by exact ⟨by rfl, by rfl, by rfl, by omega⟩) ?_; intro y6 x6 hown6 hk6 hgr6 hob6)
      clear hgr6 hob6
      have hownL : x6.ownsRow w4.heap.size 9 1 y6 6 (([kk0 ++ d0, kk1 ++ d1, kk2 ++ d2, kk3 ++ d3, kk4 ++ d4, ⟨#[119, 114, 97, 112]⟩] : List ByteArray).map Value.string) := hown6
      obtain ⟨VA, VC, hye, hV⟩ := Sl.of_own hownL
      subst hye
      have hj := join_any VA 6 VC _ _ hV (by omega) (by omega) (by
        refine Nat.le_trans (join_len _ ?_) (by show 12 * 6 ≤ 100000; omega)
        intro x hx
        simp only [List.mem_cons, List.not_mem_nil, or_false] at hx
        rcases hx with rfl | rfl | rfl | rfl | rfl | rfl
        · rw [ByteArray.size_append]; have := HSZ0.out; have := dS_size n0 (by omega); rw [E0.out] at this; omega
        · rw [ByteArray.size_append]; have := HSZ1.out; have := dS_size n1 (by omega); rw [E1.out] at this; omega
        · rw [ByteArray.size_append]; have := HSZ2.out; have := dS_size n2 (by omega); rw [E2.out] at this; omega
        · rw [ByteArray.size_append]; have := HSZ3.out; have := dS_size n3 (by omega); rw [E3.out] at this; omega
        · rw [ByteArray.size_append]; have := HSZ4.out; have := dS_size n4 (by omega); rw [E4.out] at this; omega
        · decide
      )
      have hE : T = joinS [kk0 ++ d0, kk1 ++ d1, kk2 ++ d2, kk3 ++ d3, kk4 ++ d4, ⟨#[119, 114, 97, 112]⟩] := by
        rw [HT.out, ← E0.out, ← E1.out, ← E2.out, ← E3.out, ← E4.out, ← HKK0.out, ← HKK1.out, ← HKK2.out, ← HKK3.out, ← HKK4.out]
        rfl
      rw [← hE] at hj
      have HJ := Lib.hid hj
      clear hj hE hV hownL
      go_wp2_with fail
      refine HJ.out.mono ?_
      rintro e w9 ⟨rfl, k9⟩
      go_wp2_with fail
      go_ret
      exact ⟨rfl, (K4.trans hk6).trans k9⟩
  · cases r
    · skip
      go_upto_region 10 with (at_builtin; refine wpList_push w4 (by rfl) _ _ (by rfl) appT_str (by rfl) hown5 hk5 (by rfl) (by exact ⟨by rfl, by rfl, by rfl, by omega⟩) ?_; intro y6 x6 hown6 hk6 hgr6 hob6)
      have cr6 := grown_cell hgr6 (((Kept.refl _).alloc _).cell cr) ng5
      clear hgr6 hob6
      have hownL : x6.ownsRow w4.heap.size 9 1 y6 6 (([kk0 ++ d0, kk1 ++ d1, kk2 ++ d2, kk3 ++ d3, kk4 ++ d4, ⟨#[116, 97, 98, 115]⟩] : List ByteArray).map Value.string) := hown6
      obtain ⟨VA, VC, hye, hV⟩ := Sl.of_own hownL
      subst hye
      have hj := join_any VA 6 VC _ _ hV (by omega) (by omega) (by
        refine Nat.le_trans (join_len _ ?_) (by show 12 * 6 ≤ 100000; omega)
        intro x hx
        simp only [List.mem_cons, List.not_mem_nil, or_false] at hx
        rcases hx with rfl | rfl | rfl | rfl | rfl | rfl
        · rw [ByteArray.size_append]; have := HSZ0.out; have := dS_size n0 (by omega); rw [E0.out] at this; omega
        · rw [ByteArray.size_append]; have := HSZ1.out; have := dS_size n1 (by omega); rw [E1.out] at this; omega
        · rw [ByteArray.size_append]; have := HSZ2.out; have := dS_size n2 (by omega); rw [E2.out] at this; omega
        · rw [ByteArray.size_append]; have := HSZ3.out; have := dS_size n3 (by omega); rw [E3.out] at this; omega
        · rw [ByteArray.size_append]; have := HSZ4.out; have := dS_size n4 (by omega); rw [E4.out] at this; omega
        · decide
      )
      have hE : T = joinS [kk0 ++ d0, kk1 ++ d1, kk2 ++ d2, kk3 ++ d3, kk4 ++ d4, ⟨#[116, 97, 98, 115]⟩] := by
        rw [HT.out, ← E0.out, ← E1.out, ← E2.out, ← E3.out, ← E4.out, ← HKK0.out, ← HKK1.out, ← HKK2.out, ← HKK3.out, ← HKK4.out]
        rfl
      rw [← hE] at hj
      have HJ := Lib.hid hj
      clear hj hE hV hownL
      go_wp2_with fail
      refine HJ.out.mono ?_
      rintro e w9 ⟨rfl, k9⟩
      go_wp2_with fail
      go_ret
      exact ⟨rfl, (K4.trans hk6).trans k9⟩
    · skip
      go_upto_region 10 with (at_builtin; refine wpList_push w4 (by rfl) _ _ (by rfl) appT_str (by rfl) hown5 hk5 (by rfl) (by exact ⟨by rfl, by rfl, by rfl, by omega⟩) ?_; intro y6 x6 hown6 hk6 hgr6 hob6)
      have cr6 := grown_cell hgr6 (((Kept.refl _).alloc _).cell cr) ng5
      clear hgr6 hob6
      go_wp2_with (at_builtin; refine wpList_push w4 (by rfl) _ _ (by rfl) appT_str (by rfl) hown6 hk6 (by rfl) (by exact ⟨by rfl, by rfl, by rfl, by omega⟩) ?_; intro y7 x7 hown7 hk7 hgr6 hob6)
      clear hgr6 hob6
      have hownL : x7.ownsRow w4.heap.size 9 1 y7 7 (([kk0 ++ d0, kk1 ++ d1, kk2 ++ d2, kk3 ++ d3, kk4 ++ d4, ⟨#[116, 97, 98, 115]⟩, ⟨#[119, 114, 97, 112]⟩] : List ByteArray).map Value.string) := hown7
      obtain ⟨VA, VC, hye, hV⟩ := Sl.of_own hownL
      subst hye
      have hj := join_any VA 7 VC _ _ hV (by omega) (by omega) (by
        refine Nat.le_trans (join_len _ ?_) (by show 12 * 7 ≤ 100000; omega)
        intro x hx
        simp only [List.mem_cons, List.not_mem_nil, or_false] at hx
        rcases hx with rfl | rfl | rfl | rfl | rfl | rfl | rfl
        · rw [ByteArray.size_append]; have := HSZ0.out; have := dS_size n0 (by omega); rw [E0.out] at this; omega
        · rw [ByteArray.size_append]; have := HSZ1.out; have := dS_size n1 (by omega); rw [E1.out] at this; omega
        · rw [ByteArray.size_append]; have := HSZ2.out; have := dS_size n2 (by omega); rw [E2.out] at this; omega
        · rw [ByteArray.size_append]; have := HSZ3.out; have := dS_size n3 (by omega); rw [E3.out] at this; omega
        · rw [ByteArray.size_append]; have := HSZ4.out; have := dS_size n4 (by omega); rw [E4.out] at this; omega
        · decide
        · decide
      )
      have hE : T = joinS [kk0 ++ d0, kk1 ++ d1, kk2 ++ d2, kk3 ++ d3, kk4 ++ d4, ⟨#[116, 97, 98, 115]⟩, ⟨#[119, 114, 97, 112]⟩] := by
        rw [HT.out, ← E0.out, ← E1.out, ← E2.out, ← E3.out, ← E4.out, ← HKK0.out, ← HKK1.out, ← HKK2.out, ← HKK3.out, ← HKK4.out]
        rfl
      rw [← hE] at hj
      have HJ := Lib.hid hj
      clear hj hE hV hownL
      go_wp2_with fail
      refine HJ.out.mono ?_
      rintro e w9 ⟨rfl, k9⟩
      go_wp2_with fail
      go_ret
      exact ⟨rfl, (K4.trans hk7).trans k9⟩
end Go.Proofs.Ytmicmmbdkmmnoaa
