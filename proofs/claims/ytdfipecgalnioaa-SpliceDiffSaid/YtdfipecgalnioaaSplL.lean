/- Layer 12: the law's short, few, ours, same: walked. -/
import Derived.Test.YtdfipecgalnioaaSplB
import Derived.Test.YtdfipecgalnioaaStr
import Derived.BigQuiet
namespace Go.Proofs.Ytdfipecgalnioaa
open Go.RowKit
attribute [local go_sem ↓] Go.wp_at_zero Go.wp_at_succ

theorem short_any (A : Option Addr) (n c : Nat) (b : List Int) (w : World) (h : Sl w 1 A n c (b.map (Value.int .u8))) :
    Calls Try.prog 13 #[.slice A n c] w fun e w' => e = .returned (.slice A (min n 80) c) ∧ Kept w w' := by
  have hcap := h.cap
  have hmax := h.max
  by_cases h1 : 80 < n
  · have d1 : decide ((80 : Int) < n) = true := by simp; omega
    have hcut := run_cut_h appT_bytes A n c 80 (by omega)
    rw [show ((80 : Nat) : Int) = 80 by rfl] at hcut
    rw [Nat.min_eq_right (by omega)]
    have j1 : (80 : Int) ≤ c := by omega
    go_enter Try.func13, Try.ntmps13
    go_wp2_with fail
    go_ret
    exact ⟨rfl, Kept.refl _⟩
  · have d1 : decide ((80 : Int) < n) = false := by simp; omega
    rw [Nat.min_eq_left (by omega)]
    go_enter Try.func13, Try.ntmps13
    go_wp2_with fail
    go_ret
    exact ⟨rfl, Kept.refl _⟩
theorem short_sl {A : Option Addr} {n c : Nat} {b : List Int} {w : World} (h : Sl w 1 A n c (b.map (Value.int .u8))) : Sl w 1 A (min n 80) c ((b.take 80).map (Value.int .u8)) := by
  by_cases h1 : 80 < n
  · rw [Nat.min_eq_right (by omega)]
    exact h.to1 (by omega)
  · rw [Nat.min_eq_left (by omega), List.take_of_length_le (by have := h.llen1; omega)]
    exact h
def cutCh (x : Ch) : Ch := ⟨x.f, x.t, x.A, min x.n 80, x.c, x.b.take 80⟩
theorem cutCh_ok {w : World} {x : Ch} (h : x.ok w) : (cutCh x).ok w := ⟨short_sl h.1, h.2⟩
set_option maxHeartbeats 2000000 in
theorem few_any (A : Option Addr) (n c : Nat) (L : List Ch) (w : World) (h : Sl w 3 A n c (L.flatMap Ch.cells)) (hok : ∀ x ∈ L, x.ok w) :
    Calls Try.prog 7 #[.slice A n c] w fun e w' => ∃ VA VN VC, e = .returned (.slice VA VN VC) ∧ VN ≤ 8 ∧ Sl w' 3 VA VN VC (((L.take 8).map cutCh).flatMap Ch.cells) ∧ Kept w w' := by
  have hL := h.llen (enc := Ch.cells) (fun _ => rfl) (by omega)
  have HL := Lib.hid hL
  have hcap := h.cap
  have hmax := h.max
  have HOK := Lib.hid hok
  clear hok hL
  go_enter Try.func7, Try.ntmps7
  go_wp2_with fail
  go_loopw [3, 8] (fun v i wr => ∃ (k m : Nat), k ≤ n ∧ i = .int .i64 k ∧ m = min k 8 ∧ wr.ownsRow w.heap.size 49 3 v m (((L.take m).map cutCh).flatMap Ch.cells) ∧ Kept w wr) (fun _ i _ => n - (intOf i).toNat)
  case atStart => exact ⟨0, 0, Nat.zero_le _, rfl, rfl, World.ownsRow_nil _ _ _ _, Kept.refl _⟩
  case round =>
    obtain ⟨k, m, hk, rfl, hm, hown, hkept⟩ := hrel
    have HM := Lib.hid hm
    have hm8 : m ≤ 8 := by omega
    clear hm
    by_cases hlt : k < n
    · obtain ⟨b, o, x, rfl, hx, x0, x1, x2, hb⟩ := elem_ch (h.kept hkept) hlt
      have hxo := (HOK.out x (List.mem_of_getElem? hx)).1.kept hkept
      have HX := Lib.hid hx
      clear hx
      have kb : Kept wr _ := (Kept.refl wr).alloc (.cells #[.int .i64 x.f, .int .i64 x.t, .slice x.A x.n x.c] 49)
      have bx := Blk.new wr #[.int .i64 x.f, .int .i64 x.t, .slice x.A x.n x.c] 49
      by_cases h8 : k < 8
      · have d1 : decide ((k : Int) < 8) = true := by simp; omega
        go_upto_region 6 with fail
        generalize wr.alloc (.cells #[.int .i64 x.f, .int .i64 x.t, .slice x.A x.n x.c] 49) = w3 at kb bx ⊢
        obtain ⟨g3, hg3⟩ : ∃ g3, wr.heap.size = g3 := ⟨_, rfl⟩
        have n10 : some g3 ≠ u3.ownBlock := by
          intro e
          have := hown.lt _ e.symm
          omega
        rw [hg3] at bx ⊢
        clear hg3
        have own3 := own_kept hown kb
        have k3 := hkept.trans kb
        have hxo3 := hxo.kept kb
        have b0 : w3.cell? ⟨g3, 0, none⟩ = some (.int .i64 x.f) := bx.cell 0
        have b1 : w3.cell? ⟨g3, 1, none⟩ = some (.int .i64 x.t) := bx.cell 1
        have b2 : w3.cell? ⟨g3, 2, none⟩ = some (.slice x.A x.n x.c) := bx.cell 2
        obtain ⟨M, hM⟩ : ∃ z, min x.n 80 = z := ⟨_, rfl⟩
        have hsh := fun w' (hk : Kept w3 w') => short_any x.A x.n x.c x.b w' (hxo3.kept hk)
        rw [hM] at hsh
        have HSH := Lib.hid hsh
        have HMM := Lib.hid hM
        clear hsh hM d1
        go_region_held3 (fun w' => w'.cell? ⟨g3, 0, none⟩ = some (.int .i64 x.f) ∧ w'.cell? ⟨g3, 1, none⟩ = some (.int .i64 x.t) ∧ w'.cell? ⟨g3, 2, none⟩ = some (.slice x.A x.n x.c)) (first | go_keep | exact ⟨hk4.cell b0, hk4.cell b1, hk4.cell b2⟩ | exact ⟨grown_cell hgr5 (((Kept.refl _).alloc _).cell (hk4.cell b0)) n10, grown_cell hgr5 (((Kept.refl _).alloc _).cell (hk4.cell b1)) n10, grown_cell hgr5 (((Kept.refl _).alloc _).cell (hk4.cell b2)) n10⟩)
          (first
          | (go_at_call 13; refine (HSH.out _ (Kept.refl w3).drew).mono ?_; rintro e w4 ⟨rfl, hk4⟩)
          | (refine step_app w (by rfl) _ _ (by rfl) appT_rchs (by rfl) ((own_kept own3.drew hk4).alloc _) ((k3.drew.trans hk4).alloc _) (by rfl) (Sl.litg (by rfl) (by rfl) (by omega)) ⟨by rfl, by omega⟩ ?_; intro v' w5 hown5 hk5 hgr5 hob5))
        go_wp2_with fail
        go_roundw
        case rel =>
          have hm := HM.out
          refine ⟨k + 1, m + 1, hlt, by go_num, by omega, ?_, hk5⟩
          have e : (L.take (m + 1)).map cutCh = (L.take m).map cutCh ++ [cutCh x] := by
            rw [show m = k by omega, List.take_add_one, HX.out, List.map_append]
            rfl
          rw [e, List.flatMap_append]
          have e2 : [cutCh x].flatMap Ch.cells = [.int .i64 x.f, .int .i64 x.t, .slice x.A M x.c] := by
            rw [← HMM.out]
            rfl
          rw [e2]
          exact hown5
        case measure =>
          simp [intOf]
          omega
      · have d1 : decide ((k : Int) < 8) = false := by simp; omega
        go_wp2_with fail
        go_roundw
        case rel =>
          have hm := HM.out
          exact ⟨k + 1, m, hlt, by go_num, by omega, own_kept hown kb, hkept.trans kb⟩
        case measure =>
          simp [intOf]
          omega
    · obtain rfl : k = n := by omega
      obtain ⟨VA, VC, rfl, hV⟩ := own_sl hown
      go_wp2_with fail
      go_ret
      have e : L.take m = L.take 8 := by
        have h1 := HM.out
        have h2 := HL.out
        rcases Nat.lt_or_ge k 8 with h | h
        · rw [List.take_of_length_le (by omega), List.take_of_length_le (by omega)]
        · rw [show m = 8 by omega]
      rw [e] at hV
      exact ⟨VA, m, VC, rfl, hm8, hV, hkept⟩
set_option maxHeartbeats 2000000 in
theorem ours_any (A : Option Addr) (n c : Nat) (L : List Ch) (w : World) (h : Sl w 3 A n c (L.flatMap Ch.cells)) (hn : n ≤ 1000) :
    Calls Try.prog 9 #[.slice A n c] w fun e w' => ∃ VA VC, e = .returned (.slice VA n VC) ∧ Sl w' 3 VA n VC (L.flatMap Ch.cells) ∧ Kept w w' := by
  have hL := h.llen (enc := Ch.cells) (fun _ => rfl) (by omega)
  have HL := Lib.hid hL
  have hcap := h.cap
  have hmax := h.max
  clear hL
  go_enter Try.func9, Try.ntmps9
  go_wp2_with fail
  go_loopw [3, 8] (fun v i wr => ∃ (k : Nat), k ≤ n ∧ i = .int .i64 k ∧ wr.ownsRow w.heap.size 44 3 v k ((L.take k).flatMap Ch.cells) ∧ Kept w wr) (fun _ i _ => n - (intOf i).toNat)
  case atStart => exact ⟨0, Nat.zero_le _, rfl, World.ownsRow_nil _ _ _ _, Kept.refl _⟩
  case round =>
    obtain ⟨k, hk, rfl, hown, hkept⟩ := hrel
    by_cases hlt : k < n
    · obtain ⟨b, o, x, rfl, hx, x0, x1, x2, hb⟩ := elem_ch (h.kept hkept) hlt
      have HX := Lib.hid hx
      clear hx
      have kb : Kept wr _ := (Kept.refl wr).alloc (.cells #[.int .i64 x.f, .int .i64 x.t, .slice x.A x.n x.c] 49)
      have bx := Blk.new wr #[.int .i64 x.f, .int .i64 x.t, .slice x.A x.n x.c] 49
      go_upto_region 5 with fail
      generalize wr.alloc (.cells #[.int .i64 x.f, .int .i64 x.t, .slice x.A x.n x.c] 49) = w3 at kb bx ⊢
      obtain ⟨g3, hg3⟩ : ∃ g3, wr.heap.size = g3 := ⟨_, rfl⟩
      rw [hg3] at bx ⊢
      clear hg3
      have own3 := own_kept hown kb
      have k3 := hkept.trans kb
      have bf := bx.cell
      go_wp2_with (at_builtin; refine wpList_push w (by rfl) _ _ (by rfl) appT_chs (by rfl) own3 k3 (by rfl) (by exact ⟨by rfl, by rfl, by rfl, by omega⟩) ?_; intro v5 w5 hown5 hk5 hgr5 hob5)
      clear hgr5 hob5
      go_roundw
      case rel =>
        refine ⟨k + 1, hlt, by go_num, ?_, hk5⟩
        rw [List.take_add_one, HX.out, List.flatMap_append]
        exact hown5
      case measure =>
        simp [intOf]
        omega
    · obtain rfl : k = n := by omega
      obtain ⟨VA, VC, rfl, hV⟩ := own_sl hown
      rw [List.take_of_length_le (by have := HL.out; omega)] at hV
      go_wp2_with fail
      go_ret
      exact ⟨VA, VC, rfl, hV, hkept⟩
set_option maxHeartbeats 4000000 in
theorem same_any (A : Option Addr) (n c : Nat) (L : List Ch) (A' : Option Addr) (n' c' : Nat) (L' : List Ch) (w : World) (h : Sl w 3 A n c (L.flatMap Ch.cells)) (h' : Sl w 3 A' n' c' (L'.flatMap Ch.cells)) (hok : ∀ x ∈ L, x.ok w) (hok' : ∀ x ∈ L', x.ok w) (he : L.map Ch.k = L'.map Ch.k) (hn : n ≤ 1000) :
    Calls Try.prog 11 #[.slice A n c, .slice A' n' c'] w fun e w' => e = .returned (.bool true) ∧ Kept w w' := by
  have hL := h.llen (enc := Ch.cells) (fun _ => rfl) (by omega)
  have hL' := h'.llen (enc := Ch.cells) (fun _ => rfl) (by omega)
  have hnn : n' = n := by
    have := congrArg List.length he
    rw [List.length_map, List.length_map] at this
    omega
  subst hnn
  have hcap := h.cap
  have hmax := h.max
  have hcap' := h'.cap
  have hmax' := h'.max
  have HOK := Lib.hid hok
  have HOK' := Lib.hid hok'
  have HEQ := Lib.hid he
  clear hL hL' hok hok' he
  go_enter Try.func11, Try.ntmps11
  go_wp2_with fail
  go_loopw [14] (fun i wr => ∃ (k : Nat), k ≤ n' ∧ i = .int .i64 k ∧ Kept w wr) (fun i _ => n' - (intOf i).toNat)
  case atStart => exact ⟨0, Nat.zero_le _, rfl, Kept.refl _⟩
  case round =>
    obtain ⟨k, hk, rfl, hkept⟩ := hrel
    by_cases hlt : k < n'
    · obtain ⟨b, o, x, rfl, hx, x0, x1, x2, hb⟩ := elem_ch (h'.kept hkept) hlt
      obtain ⟨b2, o2, y, rfl, hy, y0, y1, y2, hb2⟩ := elem_ch (h.kept hkept) hlt
      have hxy : y.k = x.k := by
        have := congrArg (fun l => l[k]?) HEQ.out
        simp only [List.getElem?_map, hx, hy] at this
        simpa using this
      have e0 : y.f = x.f := congrArg Kc.f hxy
      have e1 : y.t = x.t := congrArg Kc.t hxy
      have e2 : y.b = x.b := congrArg Kc.b hxy
      rw [e0] at y0
      rw [e1] at y1
      have hxs := (HOK'.out x (List.mem_of_getElem? hx)).1.kept hkept
      have hys := (HOK.out y (List.mem_of_getElem? hy)).1.kept hkept
      rw [e2] at hys
      have kb : Kept wr _ := (Kept.refl wr).alloc (.cells #[.int .i64 x.f, .int .i64 x.t, .slice x.A x.n x.c] 49)
      have bx := Blk.new wr #[.int .i64 x.f, .int .i64 x.t, .slice x.A x.n x.c] 49
      clear hxy e0 e1 e2 hx hy
      have l0 : (0 : Int) ≤ k := by omega
      have l1 : (k : Int) < n' := by omega
      go_upto_region 6 with fail
      generalize wr.alloc (.cells #[.int .i64 x.f, .int .i64 x.t, .slice x.A x.n x.c] 49) = w3 at kb bx ⊢
      obtain ⟨g3, hg3⟩ : ∃ g3, wr.heap.size = g3 := ⟨_, rfl⟩
      rw [hg3] at bx ⊢
      clear hg3
      have k3 := hkept.trans kb
      have bf := bx.cell
      have z0 := kb.cell y0
      have z1 := kb.cell y1
      have z2 := kb.cell y2
      have r1 := run_str_q (P := Try.prog) Try.underlying34 Try.underlying5 Try.underlying9 (hxs.kept kb) _ rfl
      have r2 := run_str_q (P := Try.prog) Try.underlying34 Try.underlying5 Try.underlying9 (hys.kept kb) _ rfl
      generalize strOfNums x.b = st at r1 r2
      go_quiet (fail)
      go_wp2_with fail
      go_roundw
      case rel => exact ⟨k + 1, hlt, by go_num, k3.drewN _⟩
      case measure =>
        simp [intOf]
        omega
    · obtain rfl : k = n' := by omega
      go_wp2_with fail
      go_ret
      exact ⟨rfl, hkept⟩

def egK : List Kc := [⟨2, 2, [121, 121]⟩, ⟨0, 1, [120]⟩]
theorem eg_err : errA [97, 98, 99] egK = 0 := by decide
theorem eg_out : outF [97, 98, 99] 0 (srt egK) = [120, 98, 121, 121, 99] := by decide
theorem eg_back : backF [97, 98, 99] 0 0 (srt egK) = [⟨0, 1, [97]⟩, ⟨2, 4, []⟩] := by decide
set_option maxHeartbeats 4000000 in
theorem awake_any (w : World) : Calls Try.prog 12 #[] w fun e w' => e = .returned (.bool true) ∧ Kept w w' := by
  have kc := fun (w : World) (C : Array Value) (n c g : Nat) (hg : g = w.heap.size) => Go.Joins.run_convert_bytes_const_at (P := Try.prog) w 34 5 C n c g hg Try.underlying34 Try.underlying5
  go_enter Try.func12, Try.ntmps12
  go_wp2_with fail
  have hA := Sl.litz (w := w) (t := 5) (cs := [.int .u8 97, .int .u8 98, .int .u8 99]) (n := 3) (s := 1) (g := w.heap.size) (fr := (3, 4)) rfl rfl (by omega)
  have kA := (Kept.refl w).alloc (.cells #[.int .u8 97, .int .u8 98, .int .u8 99] 5 (3, 4))
  have zA : (w.alloc (.cells #[.int .u8 97, .int .u8 98, .int .u8 99] 5 (3, 4))).heap.size = w.heap.size + 1 := by simp
  generalize w.alloc (.cells #[.int .u8 97, .int .u8 98, .int .u8 99] 5 (3, 4)) = wa at hA kA zA ⊢
  have hB := Sl.litz (w := wa) (t := 5) (cs := [.int .u8 121, .int .u8 121]) (n := 2) (s := 1) (g := w.heap.size + 1) (fr := (2, 3)) zA.symm rfl (by omega)
  have kB := (Kept.refl wa).alloc (.cells #[.int .u8 121, .int .u8 121] 5 (2, 3))
  have zB : (wa.alloc (.cells #[.int .u8 121, .int .u8 121] 5 (2, 3))).heap.size = w.heap.size + 1 + 1 := by simp [zA]
  generalize wa.alloc (.cells #[.int .u8 121, .int .u8 121] 5 (2, 3)) = wb at hB kB zB ⊢
  have hC := Sl.litz (w := wb) (t := 5) (cs := [.int .u8 120]) (n := 1) (s := 1) (g := w.heap.size + 1 + 1) (fr := (1, 2)) zB.symm rfl (by omega)
  have kC := (Kept.refl wb).alloc (.cells #[.int .u8 120] 5 (1, 2))
  have zC : (wb.alloc (.cells #[.int .u8 120] 5 (1, 2))).heap.size = w.heap.size + 1 + 1 + 1 := by simp [zB]
  generalize wb.alloc (.cells #[.int .u8 120] 5 (1, 2)) = wc at hC kC zC ⊢
  obtain ⟨L, hLe⟩ : ∃ L : List Ch, L = [⟨2, 2, some ⟨w.heap.size + 1, 0, none⟩, 2, 2, [121, 121]⟩, ⟨0, 1, some ⟨w.heap.size + 1 + 1, 0, none⟩, 1, 1, [120]⟩] := ⟨_, rfl⟩
  have hD := Sl.litf (w := wc) (t := 49) (cs := [.int .i64 2, .int .i64 2, .slice (some ⟨w.heap.size + 1, 0, none⟩) 2 2, .int .i64 0, .int .i64 1, .slice (some ⟨w.heap.size + 1 + 1, 0, none⟩) 1 1]) (n := 2) (s := 3) (enc := Ch.cells) (l := L) (by rw [hLe]; rfl) rfl (by omega)
  rw [zC] at hD
  have kD := (Kept.refl wc).alloc (.cells #[.int .i64 2, .int .i64 2, .slice (some ⟨w.heap.size + 1, 0, none⟩) 2 2, .int .i64 0, .int .i64 1, .slice (some ⟨w.heap.size + 1 + 1, 0, none⟩) 1 1] 49)
  generalize wc.alloc (.cells #[.int .i64 2, .int .i64 2, .slice (some ⟨w.heap.size + 1, 0, none⟩) 2 2, .int .i64 0, .int .i64 1, .slice (some ⟨w.heap.size + 1 + 1, 0, none⟩) 1 1] 49) = wd at hD kD ⊢
  have hokD : ∀ x ∈ L, x.ok wd := by
    intro x hx
    rw [hLe] at hx
    simp at hx
    rcases hx with rfl | rfl
    · exact ⟨(hB.kept kC).kept kD, ⟨by dsimp only; omega, by dsimp only; omega⟩, ⟨by dsimp only; omega, by dsimp only; omega⟩⟩
    · exact ⟨hC.kept kD, ⟨by dsimp only; omega, by dsimp only; omega⟩, ⟨by dsimp only; omega, by dsimp only; omega⟩⟩
  have hLk : L.map Ch.k = egK := by rw [hLe]; rfl
  have hLn : ∀ x ∈ L, x.n ≤ 100000 := by
    intro x hx
    rw [hLe] at hx
    simp at hx
    rcases hx with rfl | rfl
    · dsimp only; omega
    · dsimp only; omega
  have hA' := ((hA.kept kB).kept kC).kept kD
  have kd := ((kA.trans kB).trans kC).trans kD
  clear zA zB zC hA hB hC kA kB kC kD hLe
  have HOK := Lib.hid hokD
  have HLK := Lib.hid hLk
  have HLN := Lib.hid hLn
  clear hokD hLk hLn
  refine (ours_any _ _ _ L _ hD (by omega)).mono ?_
  rintro e w1 ⟨VA, VC, rfl, hV, k1⟩
  have hap := apply_any _ 3 3 [97, 98, 99] VA 2 VC L w1 (hA'.kept k1) (by omega) hV (oks_kept HOK.out k1) (by omega) HLN.out
  rw [HLK.out] at hap
  have hap2 : Calls Try.prog 14 #[.slice (some ⟨w.heap.size, 0, none⟩) 3 3, .slice VA 2 VC] w1 fun e w' => ∃ (A : Option Addr) (n c : Nat) (A' : Option Addr) (n' c' : Nat) (L : List Ch), e = .returned (.tuple #[.slice A n c, .slice A' n' c', .int .i64 0]) ∧ Sl w' 1 A n c ([120, 98, 121, 121, 99].map (Value.int .u8)) ∧ Sl w' 3 A' n' c' (L.flatMap Ch.cells) ∧ (∀ x ∈ L, x.ok w') ∧ L.map Ch.k = [⟨0, 1, [97]⟩, ⟨2, 4, []⟩] ∧ Kept w1 w' := by
    refine hap.mono ?_
    rintro e w' ⟨hk, ⟨h1, _⟩ | ⟨_, A, n, c, A', n', c', L, h1, h2, h3, h4, h5⟩⟩
    · exact absurd eg_err h1
    · rw [eg_out] at h2
      rw [eg_back] at h5
      exact ⟨A, n, c, A', n', c', L, h1, h2, h3, h4, h5, hk⟩
  have HAP := Lib.hid hap2
  clear hap hap2 hV HOK HLK HLN hA'
  go_wp2_with fail
  refine HAP.out.mono ?_
  rintro e w2 ⟨A1, n1, c1, A2, n2, c2, LB, rfl, hO, hBk, hokB, hBK, k2⟩
  have hst := run_str (P := Try.prog) Try.underlying34 Try.underlying5 Try.underlying9 hO
  have e2 : strOfNums [120, 98, 121, 121, 99] = ⟨#[120, 98, 121, 121, 99]⟩ := by decide
  rw [e2] at hst
  have kd2 := (kd.trans k1).trans k2
  have HOB := Lib.hid hokB
  have HBK := Lib.hid hBK
  clear e2 hokB hBK k2 k1 kd
  go_wp2_with fail
  have hE := Sl.litz (w := w2) (t := 5) (cs := [.int .u8 97]) (n := 1) (s := 1) (g := w2.heap.size) (fr := (1, 2)) rfl rfl (by omega)
  have kE := (Kept.refl w2).alloc (.cells #[.int .u8 97] 5 (1, 2))
  have zE : (w2.alloc (.cells #[.int .u8 97] 5 (1, 2))).heap.size = w2.heap.size + 1 := by simp
  generalize w2.alloc (.cells #[.int .u8 97] 5 (1, 2)) = we at hE kE zE ⊢
  obtain ⟨L2, hLe⟩ : ∃ L : List Ch, L = [⟨0, 1, some ⟨w2.heap.size, 0, none⟩, 1, 1, [97]⟩, ⟨2, 4, none, 0, 0, []⟩] := ⟨_, rfl⟩
  have hF := Sl.litf (w := we) (t := 49) (cs := [.int .i64 0, .int .i64 1, .slice (some ⟨w2.heap.size, 0, none⟩) 1 1, .int .i64 2, .int .i64 4, .slice none 0 0]) (n := 2) (s := 3) (enc := Ch.cells) (l := L2) (by rw [hLe]; rfl) rfl (by omega)
  rw [zE] at hF
  have kF := (Kept.refl we).alloc (.cells #[.int .i64 0, .int .i64 1, .slice (some ⟨w2.heap.size, 0, none⟩) 1 1, .int .i64 2, .int .i64 4, .slice none 0 0] 49)
  generalize we.alloc (.cells #[.int .i64 0, .int .i64 1, .slice (some ⟨w2.heap.size, 0, none⟩) 1 1, .int .i64 2, .int .i64 4, .slice none 0 0] 49) = wf at hF kF ⊢
  have hok2 : ∀ x ∈ L2, x.ok wf := by
    intro x hx
    rw [hLe] at hx
    simp at hx
    rcases hx with rfl | rfl
    · exact ⟨hE.kept kF, ⟨by dsimp only; omega, by dsimp only; omega⟩, ⟨by dsimp only; omega, by dsimp only; omega⟩⟩
    · exact ⟨Sl.nil_, ⟨by dsimp only; omega, by dsimp only; omega⟩, ⟨by dsimp only; omega, by dsimp only; omega⟩⟩
  have hkk : LB.map Ch.k = L2.map Ch.k := by rw [HBK.out, hLe]; rfl
  have hn2 : n2 = 2 := by
    have h1 := hBk.llen (enc := Ch.cells) (fun _ => rfl) (by omega)
    have h2 := map_len HBK.out
    rw [← h1, h2]
    rfl
  have kEF := kE.trans kF
  refine (same_any A2 n2 c2 LB _ 2 2 L2 _ (hBk.kept kEF) hF (oks_kept HOB.out kEF) hok2 hkk (by omega)).mono ?_
  rintro e w3 ⟨rfl, k3⟩
  have kk := (kd2.trans kEF).trans k3
  clear hok2 hkk hn2 hLe hE hF kE kF zE
  go_wp2_with fail
  go_ret
  exact ⟨rfl, kk⟩
end Go.Proofs.Ytdfipecgalnioaa
