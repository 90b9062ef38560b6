/- The kids that are elements, and the one that a step leads to: walked. -/
import Derived.Test.YtnlncamiaddhfaaInfC
namespace Go.Proofs.Ytnlncamiaddhfaa
open Go.RowKit
attribute [local go_sem ↓] Go.wp_at_zero Go.wp_at_succ

def els : Nat → List Tr → List Nat
  | _, [] => []
  | i, x :: xs => if x.kind = 2 then i :: els (i + 1) xs else els (i + 1) xs
theorem els_app : ∀ (l l' : List Tr) (i : Nat), els i (l ++ l') = els i l ++ els (i + l.length) l'
  | [], l', i => by simp [els]
  | x :: xs, l', i => by
    rw [List.cons_append, els, els, els_app xs l', List.length_cons, show i + 1 + xs.length = i + (xs.length + 1) by omega]
    split <;> rfl
theorem els_take {l : List Tr} {j : Nat} {x : Tr} (h : l[j]? = some x) : els 0 (l.take (j + 1)) = els 0 (l.take j) ++ (if x.kind = 2 then [j] else []) := by
  have hj := (List.getElem?_eq_some_iff.1 h).1
  rw [List.take_add_one, h, Option.toList_some, els_app, List.length_take, Nat.min_eq_left (by omega), Nat.zero_add]
  rfl
theorem els_len : ∀ (l : List Tr) (i : Nat), (els i l).length ≤ l.length
  | [], _ => by simp [els]
  | x :: xs, i => by
    have := els_len xs (i + 1)
    rw [els]
    split <;> simp <;> omega
theorem els_bd : ∀ (l : List Tr) (i q : Nat), q ∈ els i l → i ≤ q ∧ q < i + l.length ∧ ∃ x, l[q - i]? = some x ∧ x.kind = 2
  | [], _, _, h => by simp [els] at h
  | x :: xs, i, q, h => by
    rw [els] at h
    have rec_ : q ∈ els (i + 1) xs → i ≤ q ∧ q < i + (x :: xs).length ∧ ∃ y, (x :: xs)[q - i]? = some y ∧ y.kind = 2 := fun h => by
      obtain ⟨h1, h2, y, h3, h4⟩ := els_bd xs (i + 1) q h
      refine ⟨by omega, by simp; omega, y, ?_, h4⟩
      rw [show q - i = (q - (i + 1)) + 1 by omega, List.getElem?_cons_succ]
      exact h3
    split at h
    · rename_i hk
      rcases List.mem_cons.1 h with rfl | h
      · exact ⟨Nat.le_refl _, by simp, x, by simp, hk⟩
      · exact rec_ h
    · exact rec_ h
/-- The number of the kid that a step leads to. -/
def kidT (ks : List Tr) (s : Int) : Option Nat := if s < 0 then none else (els 0 ks)[s.toNat]?
theorem kid_bd {ks : List Tr} {s : Int} {q : Nat} (h : kidT ks s = some q) : q < ks.length ∧ ∃ x, ks[q]? = some x ∧ x.kind = 2 := by
  unfold kidT at h
  split at h
  · cases h
  · obtain ⟨_, h2, x, h3, h4⟩ := els_bd ks 0 q (List.mem_of_getElem? h)
    exact ⟨by omega, x, by simpa using h3, h4⟩
theorem Nd.kids_tr : ∀ x : Nd, x.tr.kids = (match x with | .mk _ _ _ _ _ _ _ _ _ _ _ _ _ _ _ ks => ks.map Nd.tr)
  | .mk .. => by rw [Nd.tr_mk]; rfl
theorem appT_int : AppT Try.prog 45 3 1 := appT_mk (z := .int .i64 0) (bytes := 8) Try.underlying45 (by kernel_rfl) rfl (by omega) (by omega)

def ElsOf (E : List Nat) (w : World) (e : Ending) (w' : World) : Prop :=
  ∃ A c m, m = E.length ∧ e = .returned (.slice A m c) ∧ Sl w' 1 A m c (E.map (fun i : Nat => Value.int .i64 (i : Int))) ∧ Kept w w'
set_option maxHeartbeats 4000000 in
theorem elements_any (k : Int) (n : Nm) (bA : Option Addr) (bn bc : Nat) (aA : Option Addr) (an ac : Nat) (t g : ByteArray) (kA : Option Addr) (kn kc : Nat) (ks : List Nd) (w : World) (hN : Nds w kA kn kc ks) (hn : kn ≤ 1000) :
    Calls Try.prog 19 #[.agg (ndc k n bA bn bc aA an ac t g kA kn kc)] w fun e w' => ElsOf (els 0 (ks.map Nd.tr)) w e w' := by
  obtain ⟨h, _⟩ := hN
  have hL := h.llen Nd.cells_len (by omega)
  have HL := Lib.hid hL
  have hcap := h.cap
  have hmax := h.max
  clear hL
  have k1 := (Kept.refl w).alloc (.cells (ndc k n bA bn bc aA an ac t g kA kn kc) 36)
  go_enter Try.func19, Try.ntmps19
  go_wp2_with fail
  go_loopw [3, 9] (fun v i wr => ∃ (j m : Nat), j ≤ kn ∧ i = .int .i64 j ∧ m ≤ j ∧ wr.ownsRow w.heap.size 3 1 v m ((els 0 ((ks.map Nd.tr).take j)).map (fun i : Nat => Value.int .i64 (i : Int))) ∧ Kept w wr) (fun _ i _ => kn - (intOf i).toNat)
  case atStart => exact ⟨0, 0, Nat.zero_le _, rfl, Nat.le_refl _, ⟨rfl, .inl ⟨rfl, rfl⟩⟩, k1⟩
  case round =>
    obtain ⟨j, m, hj, rfl, hm, hown, hkept⟩ := hrel
    by_cases hlt : j < kn
    · obtain ⟨b, o, yk, yn, ybA, ybn, ybc, ybs, yaA, yan, yac, yal, yt, yg, ykA, ykn, ykc, yks, rfl, hy, y0, y1, y2, y3, y4, y5, y6, y7, y8, hb⟩ := cells9 (h.kept hkept) hlt
      have ht := els_take (map_get (f := Nd.tr) hy)
      rw [Nd.kind_tr] at ht
      have HT : Hid (els 0 ((ks.map Nd.tr).take (j + 1)) = els 0 ((ks.map Nd.tr).take j) ++ (if yk = 2 then [j] else [])) := ht
      have k2 := (Kept.refl wr).alloc (.cells (ndc yk yn ybA ybn ybc yaA yan yac yt yg ykA ykn ykc) 36)
      clear ht hy
      by_cases h2 : yk = 2
      · go_wp2_with (at_builtin; refine wpList_push w (by rfl) _ _ (by rfl) appT_int (by rfl) (hown.alloc _) (hkept.alloc _) (by rfl) ?_ ?_; (exact ⟨by simp, rfl, rfl, by omega⟩); intro v5 w5 hown5 hk5 _ _)
        go_roundw
        case rel =>
          refine ⟨j + 1, m + 1, hlt, by go_num, by omega, ?_, hk5⟩
          rw [HT.out, if_pos h2, List.map_append]
          exact hown5
        case measure =>
          simp [intOf]
          omega
      · go_wp2_with fail
        go_roundw
        case rel =>
          refine ⟨j + 1, m, hlt, by go_num, by omega, ?_, hkept.trans k2⟩
          rw [HT.out, if_neg h2, List.append_nil]
          exact own_kept hown k2
        case measure =>
          simp [intOf]
          omega
    · obtain rfl : j = kn := by omega
      obtain ⟨VA, VC, rfl, hV⟩ := Sl.of_own hown
      go_wp2_with fail
      go_ret
      rw [List.take_of_length_le (l := ks.map Nd.tr) (by rw [List.length_map, HL.out]; exact Nat.le_refl _)] at hV
      exact ⟨VA, VC, m, by have := hV.llen1; omega, rfl, hV, hkept⟩
def KidOf (o : Option Nat) (w : World) (e : Ending) (w' : World) : Prop :=
  (∃ q : Nat, ∃ b, e = .returned (.tuple #[.int .i64 (q : Int), .bool b]) ∧ ((o = some q ∧ b = true) ∨ (o = none ∧ q = 0 ∧ b = false))) ∧ Kept w w'
set_option maxHeartbeats 4000000 in
theorem kid_any (k : Int) (n : Nm) (bA : Option Addr) (bn bc : Nat) (aA : Option Addr) (an ac : Nat) (t g : ByteArray) (kA : Option Addr) (kn kc : Nat) (ks : List Nd) (s : Int) (w : World) (hN : Nds w kA kn kc ks) (hn : kn ≤ 1000) (hs : -9223372036854775808 ≤ s ∧ s ≤ 9223372036854775807) :
    Calls Try.prog 28 #[.agg (ndc k n bA bn bc aA an ac t g kA kn kc), .int .i64 s] w fun e w' => KidOf (kidT (ks.map Nd.tr) s) w e w' := by
  have k1 := (Kept.refl w).alloc (.cells (ndc k n bA bn bc aA an ac t g kA kn kc) 36)
  have HE := Lib.hid (elements_any k n bA bn bc aA an ac t g kA kn kc ks _ (hN.kept k1) hn)
  have HM := Lib.hid (show (els 0 (ks.map Nd.tr)).length ≤ 1000 by
    have h1 := els_len (ks.map Nd.tr) 0
    have h2 := hN.len
    rw [List.length_map] at h1
    omega)
  have HK : Hid (kidT (ks.map Nd.tr) s = if s < 0 then none else (els 0 (ks.map Nd.tr))[s.toNat]?) := rfl
  generalize kidT (ks.map Nd.tr) s = o at HK ⊢
  generalize els 0 (ks.map Nd.tr) = E at HE HM HK
  clear hN
  go_enter Try.func28, Try.ntmps28
  go_wp2_with fail
  refine HE.out.mono ?_
  rintro e w2 ⟨A, c, m, hm, rfl, hS, k2⟩
  have hm1000 : m ≤ 1000 := by rw [hm]; exact HM.out
  have HMM := Lib.hid hm
  have hcm := hS.cap
  clear hm
  by_cases h0 : s < 0
  · go_wp2_with fail
    go_ret2
    exact ⟨⟨0, false, rfl, .inr ⟨by rw [HK.out, if_pos h0], rfl, rfl⟩⟩, k1.trans k2⟩
  · obtain ⟨q, rfl⟩ : ∃ q : Nat, s = q := ⟨s.toNat, by omega⟩
    by_cases hlt : q < m
    · obtain ⟨b, o', x, rfl, hx, x0⟩ := hS.one (enc := fun i : Nat => Value.int .i64 (i : Int)) hlt
      have l1 : (q : Int) < m := by omega
      have l2 : ¬ (m : Int) ≤ q := by omega
      have HX := Lib.hid hx
      have x0' : w2.cell? ⟨b, o' + q, none⟩ = some (.int .i64 (x : Int)) := x0
      clear hx x0
      go_wp2_with fail
      go_ret2
      exact ⟨⟨x, true, rfl, .inl ⟨by rw [HK.out, if_neg (by omega)]; simpa using HX.out, rfl⟩⟩, k1.trans k2⟩
    · have l1 : (m : Int) ≤ q := by omega
      go_wp2_with fail
      go_ret2
      refine ⟨⟨0, false, rfl, .inr ⟨?_, rfl, rfl⟩⟩, k1.trans k2⟩
      rw [HK.out, if_neg (by omega)]
      have := HMM.out
      simp
      omega
theorem els_split (l : List Tr) (j : Nat) (hj : j ≤ l.length) : els 0 l = els 0 (l.take j) ++ els j (l.drop j) := by
  conv => lhs; rw [← List.take_append_drop j l]
  rw [els_app, List.length_take, Nat.min_eq_left hj, Nat.zero_add]
theorem kid_here {ks : List Tr} {j : Nat} {x : Tr} (h : ks[j]? = some x) (hk : x.kind = 2) : kidT ks ((els 0 (ks.take j)).length : Nat) = some j := by
  have hj := (List.getElem?_eq_some_iff.1 h).1
  unfold kidT
  rw [if_neg (by omega), els_split ks j (by omega), Int.toNat_natCast, List.getElem?_append_right (Nat.le_refl _), Nat.sub_self]
  rw [List.drop_eq_getElem_cons hj]
  have hx : ks[j] = x := by
    rw [List.getElem?_eq_getElem hj] at h
    injection h
  rw [hx, els, if_pos hk]
  rfl
def kidI (o : Option Nat) : Int := match o with
  | some q => q
  | none => -1
/-- How a step counts down. -/
def Down (s z : Int) (c : Nat) : Prop := (0 ≤ s ∧ z = s - c) ∨ (s < 0 ∧ (z < 0 ∨ 9223372036854775807 ≤ z + c) ∧ -9223372036854775808 ≤ z ∧ z ≤ 9223372036854775807)
theorem Down.step {s z : Int} {c : Nat} (h : Down s z c) (hz : z ≠ 0) (hs : -9223372036854775808 ≤ s ∧ s ≤ 9223372036854775807) (hc : (c : Int) ≤ s ∨ s < 0) : ∃ z', IntKind.i64.wrap (z - 1) = z' ∧ Down s z' (c + 1) ∧ (((c + 1 : Nat) : Int) ≤ s ∨ s < 0) := by
  rcases h with ⟨h1, h2⟩ | ⟨h1, h2, h3, h4⟩
  · exact ⟨z - 1, IntWalk.i64_in _ (by omega), .inl ⟨h1, by omega⟩, .inl (by omega)⟩
  · by_cases hm : z = -9223372036854775808
    · subst hm
      exact ⟨9223372036854775807, by decide, .inr ⟨h1, .inr (by omega), by omega, by omega⟩, .inr h1⟩
    · exact ⟨z - 1, IntWalk.i64_in _ (by omega), .inr ⟨h1, by omega, by omega, by omega⟩, .inr h1⟩
set_option maxHeartbeats 4000000 in
theorem rkid_any (k : Int) (n : Nm) (bA : Option Addr) (bn bc : Nat) (aA : Option Addr) (an ac : Nat) (t g : ByteArray) (kA : Option Addr) (kn kc : Nat) (ks : List Nd) (s : Int) (w : World) (hN : Nds w kA kn kc ks) (hn : kn ≤ 1000) (hs : -9223372036854775808 ≤ s ∧ s ≤ 9223372036854775807) :
    Calls Try.prog 20 #[.agg (ndc k n bA bn bc aA an ac t g kA kn kc), .int .i64 s] w fun e w' => e = .returned (.int .i64 (kidI (kidT (ks.map Nd.tr) s))) ∧ Kept w w' := by
  obtain ⟨h, _⟩ := hN
  have hL := h.llen Nd.cells_len (by omega)
  have HL := Lib.hid hL
  have hcap := h.cap
  have hmax := h.max
  clear hL
  have k1 := (Kept.refl w).alloc (.cells (ndc k n bA bn bc aA an ac t g kA kn kc) 28)
  have HS := Lib.hid hs
  clear hs
  obtain ⟨F, hF⟩ : ∃ F, kidI (kidT (ks.map Nd.tr) s) = F := ⟨_, rfl⟩
  rw [hF]
  have HF := Lib.hid hF
  clear hF
  go_enter Try.func20, Try.ntmps20
  go_wp2_with fail
  go_loopw [1, 10] (fun v i wr => ∃ (j : Nat) (z : Int), j ≤ kn ∧ i = .int .i64 j ∧ v = .int .i64 z ∧ Hid (Down s z (els 0 ((ks.map Nd.tr).take j)).length) ∧ Hid ((((els 0 ((ks.map Nd.tr).take j)).length : Int) ≤ s) ∨ s < 0) ∧ Kept w wr) (fun _ i _ => kn - (intOf i).toNat)
  case atStart =>
    refine ⟨0, s, Nat.zero_le _, rfl, rfl, ?_, ?_, k1⟩
    · have := HS.out
      unfold Hid Down
      simp [els]
      omega
    · unfold Hid
      simp [els]
      omega
  case round =>
    obtain ⟨j, z, hj, rfl, rfl, HD, HC, hkept⟩ := hrel
    by_cases hlt : j < kn
    · obtain ⟨b, o, yk, yn, ybA, ybn, ybc, ybs, yaA, yan, yac, yal, yt, yg, ykA, ykn, ykc, yks, rfl, hy, y0, y1, y2, y3, y4, y5, y6, y7, y8, hb⟩ := cells9 (h.kept hkept) hlt
      have hyt := map_get (f := Nd.tr) hy
      have ht := els_take hyt
      rw [Nd.kind_tr] at ht
      have HT : Hid (els 0 ((ks.map Nd.tr).take (j + 1)) = els 0 ((ks.map Nd.tr).take j) ++ (if yk = 2 then [j] else [])) := ht
      have HY := Lib.hid hyt
      have k2 := (Kept.refl wr).alloc (.cells (ndc yk yn ybA ybn ybc yaA yan yac yt yg ykA ykn ykc) 28)
      clear ht hy hyt
      by_cases h2 : yk = 2
      · subst h2
        by_cases hz : z = 0
        · subst hz
          have hF : F = j := by
            have hd := HD.out
            have hc := HC.out
            have hkh := kid_here HY.out (by rw [Nd.kind_tr]; rfl)
            rw [← HF.out]
            unfold Down at hd
            have he : s = ((els 0 ((ks.map Nd.tr).take j)).length : Nat) := by
              have h1 := els_len ((ks.map Nd.tr).take j) 0
              rw [List.length_take] at h1
              omega
            rw [he, hkh]
            rfl
          have HFJ := Lib.hid hF
          clear hF
          go_wp2_with fail
          go_ret
          exact ⟨ret_int HFJ.out.symm, hkept.trans k2⟩
        · obtain ⟨z', hz', hd', hc'⟩ := HD.out.step hz HS.out HC.out
          have HDD := Lib.hid (show _ ∧ _ from ⟨hd', hc'⟩)
          clear hd' hc'
          go_wp2_with fail
          go_roundw
          case rel =>
            refine ⟨j + 1, z', hlt, by go_num, by first | rfl | rw [← hz'], ?_, ?_, hkept.trans k2⟩
            · unfold Hid
              rw [HT.out, if_pos rfl, List.length_append]
              exact HDD.out.1
            · unfold Hid
              rw [HT.out, if_pos rfl, List.length_append]
              exact HDD.out.2
          case measure =>
            simp [intOf]
            omega
      · go_wp2_with fail
        go_roundw
        case rel =>
          refine ⟨j + 1, z, hlt, by go_num, rfl, ?_, ?_, hkept.trans k2⟩
          · unfold Hid
            rw [HT.out, if_neg h2, List.append_nil]
            exact HD.out
          · unfold Hid
            rw [HT.out, if_neg h2, List.append_nil]
            exact HC.out
        case measure =>
          simp [intOf]
          omega
    · obtain rfl : j = kn := by omega
      have hF : F = -1 := by
        have hc := HC.out
        have hd := HD.out
        rw [List.take_of_length_le (l := ks.map Nd.tr) (by rw [List.length_map, HL.out]; exact Nat.le_refl _)] at hc
        rw [← HF.out]
        unfold kidT
        split
        · rfl
        · rw [List.getElem?_eq_none (by omega)]
          rfl
      have HFJ := Lib.hid hF
      clear hF
      go_wp2_with fail
      go_ret
      exact ⟨ret_int HFJ.out.symm, hkept⟩
end Go.Proofs.Ytnlncamiaddhfaa
