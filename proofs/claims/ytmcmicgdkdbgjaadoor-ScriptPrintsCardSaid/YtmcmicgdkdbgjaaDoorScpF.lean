/- Paths as text: path.Print and the document's, walked. -/
import Derived.Test.YtmcmicgdkdbgjaaDoorScpE
import Derived.Test.YtmcmicgdkdbgjaaDoorScrE
namespace Go.Proofs.YtmcmicgdkdbgjaaDoor
open Go.RowKit
attribute [local go_sem ↓] Go.wp_at_zero Go.wp_at_succ

theorem appT_st6 : AppT Tryd.prog 53 9 1 := appT_mk (z := .string ⟨#[]⟩) (bytes := 16) Tryd.underlying53 (by kernel_rfl) rfl (by omega) (by omega)
theorem join_path (n : Nat) (l : List Nat) : joinB ((n :: l).map dS) = pathT (n :: l) := by
  unfold joinB
  rw [List.map_map, List.map_cons, Lib.join_cons]
  show (dS n).data.toList ++ _ = _
  have e : ∀ m, (dS m).data.toList = decF m := fun m => by rw [← ByteArray.toList_eq, dS_list]
  show _ = decF n ++ l.flatMap fun m => 47 :: decF m
  unfold Lib.joinTail
  rw [e, List.map_map, List.flatMap_def]
  congr 2
def dSV (n : Nat) : Value := .string (dS n)
theorem dSV_map (p : List Nat) : (p.map dS).map Value.string = p.map dSV := by
  rw [List.map_map]
  rfl
set_option maxRecDepth 100000 in
set_option maxHeartbeats 4000000 in
theorem pprint_any (A : Option Addr) (n c : Nat) (p : List Nat) (w : World) (h : Sl w 1 A n c (p.map natV)) (hp : ∀ x ∈ p, x < 1000000000) (hn : n ≤ 1000) : Calls Tryd.prog 35 #[.slice A n c] w fun e w' => e = .returned (.string (strB (pathT p))) ∧ Kept w w' := by
  have hcap := h.cap
  have hmax := h.max
  have hl : p.length = n := by simpa using h.llen1
  by_cases h0 : n = 0
  · obtain rfl : p = [] := List.length_eq_zero_iff.1 (by omega)
    have d0 : ((n : Int) == 0) = true := by rw [h0]; rfl
    clear h0 h
    go_enter Tryd.func35, Tryd.ntmps35
    go_wp2_with fail
    go_ret
    exact ⟨rfl, Kept.refl _⟩
  · have d0 : ((n : Int) == 0) = false := by
      rw [Bool.eq_false_iff]
      intro e
      have := beq_iff_eq.1 e
      omega
    have HP := Lib.hid hp
    have HN := Lib.hid number_any
    obtain ⟨x0, l0, hpl⟩ : ∃ x l, p = x :: l := by
      cases p with
      | nil => simp at hl; omega
      | cons x l => exact ⟨x, l, rfl⟩
    have HJ : Hid (joinB (p.map dS) = pathT p) := by
      rw [hpl]
      exact join_path _ _
    have HLN : Hid ((pathT p).length ≤ 100000) := by
      have := path_len p hp
      unfold Hid
      omega
    clear hp hpl
    obtain ⟨T, hT⟩ : ∃ T, pathT p = T := ⟨_, rfl⟩
    rw [hT] at HJ HLN ⊢
    clear hT
    go_enter Tryd.func35, Tryd.ntmps35
    go_wp2_with fail
    go_loopw [3, 11] (fun v i wr => ∃ k : Nat, k ≤ n ∧ i = .int .i64 k ∧ wr.ownsRow w.heap.size 9 1 v k ((p.take k).map dSV) ∧ Kept w wr) (fun _ i _ => n - (intOf i).toNat)
    case atStart => exact ⟨0, Nat.zero_le _, rfl, ⟨rfl, .inl ⟨rfl, rfl⟩⟩, Kept.refl _⟩
    case round =>
      obtain ⟨k, hk, rfl, hown, hkp⟩ := hrel
      by_cases hlt : k < n
      · obtain ⟨b, o, x, rfl, hx, y0⟩ := (h.kept hkp).one hlt
        have y1 : wr.cell? ⟨b, o + k, none⟩ = some (.int .i64 (x : Int)) := y0
        have l1 : (0 : Int) ≤ k := by omega
        have l2 : (k : Int) < n := by omega
        have l3 : ¬ (x : Int) < 0 := by omega
        have HV := Lib.hid (HN.out x (HP.out x (List.mem_of_getElem? hx)) wr)
        have HT : Hid ((p.take (k + 1)).map dSV = (p.take k).map dSV ++ [.string (dS x)]) := by
          unfold Hid
          rw [List.take_add_one, hx, List.map_append]
          rfl
        clear hx y0
        go_wp2_with fail
        refine HV.out.mono ?_
        rintro e w2 ⟨rfl, rfl⟩
        go_wp2_with (at_builtin; refine wpList_push w (by rfl) _ _ (by rfl) appT_st6 (by rfl) hown hkp (by rfl) ?_ ?_; (exact ⟨by rfl, by rfl, by rfl, by omega⟩); intro v' w3 hown3 hk3 hgr3 hob3)
        go_roundw
        case rel => exact ⟨k + 1, hlt, by go_num, by rw [HT.out]; exact hown3, hk3⟩
        case measure =>
          simp [intOf]
          omega
      · obtain rfl : k = n := by omega
        have htk : p.take k = p := List.take_of_length_le (by omega)
        rw [htk] at hown
        obtain ⟨VA, VC, rfl, hV⟩ := Sl.of_own hown
        rw [← dSV_map] at hV
        have HJN := Lib.hid (join_any VA k VC (p.map dS) wr hV (by omega) (by omega) (by rw [HJ.out]; exact HLN.out))
        rw [HJ.out] at HJN
        clear hV htk hown
        go_wp2_with fail
        refine HJN.out.mono ?_
        rintro e w2 ⟨rfl, k2⟩
        go_wp2_with fail
        go_ret
        exact ⟨rfl, hkp.trans k2⟩
/-- What the document has begun of a path's text. -/
def partT : List Nat → Bs
  | [] => []
  | n :: l => pathT (n :: l)
theorem partT_zero (n : Nat) : partT [n] = decF n := by simp [partT, pathT]
theorem partT_more {p : List Nat} {k x : Nat} (h : p[k]? = some x) (h0 : 0 < k) : partT (p.take (k + 1)) = partT (p.take k) ++ (47 :: decF x) := by
  cases p with
  | nil => simp at h
  | cons a l =>
    obtain ⟨j, rfl⟩ : ∃ j, k = j + 1 := ⟨k - 1, by omega⟩
    rw [List.take_succ_cons, List.take_succ_cons]
    rw [List.getElem?_cons_succ] at h
    show decF a ++ (l.take (j + 1)).flatMap (fun m => 47 :: decF m) = (decF a ++ (l.take j).flatMap fun m => 47 :: decF m) ++ _
    rw [List.take_add_one, h, List.flatMap_append, List.append_assoc]
    simp
set_option maxRecDepth 100000 in
set_option maxHeartbeats 4000000 in
theorem rpprint_any (A : Option Addr) (n c : Nat) (p : List Nat) (w : World) (h : Sl w 1 A n c (p.map natV)) (hp : ∀ x ∈ p, x < 1000000000) (hn : n ≤ 1000) : Calls Tryd.prog 40 #[.slice A n c] w fun e w' => e = .returned (.string (strB (pathT p))) ∧ Kept w w' := by
  have hcap := h.cap
  have hmax := h.max
  have hl : p.length = n := by simpa using h.llen1
  have HP := Lib.hid hp
  have HN := Lib.hid (fun x (hx : x < 1000000000) w => pnum_any (x + 1) x w (by omega) hx)
  clear hp
  go_enter Tryd.func40, Tryd.ntmps40
  go_wp2_with fail
  go_loopw [3, 8] (fun s i wr => ∃ (k : Nat) (S : ByteArray), k ≤ n ∧ i = .int .i64 k ∧ s = .string S ∧ Hid (S.toList = partT (p.take k)) ∧ S.size ≤ 20 * k ∧ Kept w wr) (fun _ i _ => n - (intOf i).toNat)
  case atStart => exact ⟨0, _, Nat.zero_le _, rfl, rfl, by unfold Hid; rw [ByteArray.toList_eq]; rfl, by decide, Kept.refl _⟩
  case round =>
    obtain ⟨k, S, hk, rfl, rfl, HS, hSs, hkp⟩ := hrel
    by_cases hlt : k < n
    · obtain ⟨b, o, x, rfl, hx, y0⟩ := (h.kept hkp).one hlt
      have y1 : wr.cell? ⟨b, o + k, none⟩ = some (.int .i64 (x : Int)) := y0
      have l1 : (0 : Int) ≤ k := by omega
      have l2 : (k : Int) < n := by omega
      have l3 : ¬ (x : Int) < 0 := by omega
      have hx9 := HP.out x (List.mem_of_getElem? hx)
      have HV := Lib.hid (HN.out x hx9 wr)
      have hds : (dS x).size ≤ 9 := by rw [← bytes_len, dS_list]; exact dec_max x 8 (by omega)
      have hdl := Lib.hid (dS_list x)
      generalize dS x = d at HV hds hdl
      by_cases c0 : k = 0
      · have l4 : ¬ (0 : Int) < k := by omega
        have HT : Hid ((S ++ d).toList = partT (p.take (k + 1))) := by
          unfold Hid
          rw [toList_app, HS.out, hdl.out, c0, List.take_zero, List.take_add_one]
          rw [c0] at hx
          rw [hx]
          exact (partT_zero x).symm
        have hSz : (S ++ d).size ≤ 20 * (k + 1) := by rw [ByteArray.size_append]; omega
        clear hx y0 c0
        go_wp2_with fail
        refine HV.out.mono ?_
        rintro e w2 ⟨rfl, k2⟩
        go_wp2_with fail
        go_roundw
        case rel => exact ⟨k + 1, _, hlt, by go_num, rfl, HT, hSz, hkp.trans k2⟩
        case measure =>
          simp [intOf]
          omega
      · have l4 : (0 : Int) < k := by omega
        have HT : Hid ((S ++ ⟨#[47]⟩ ++ d).toList = partT (p.take (k + 1))) := by
          unfold Hid
          rw [toList_app, toList_app, HS.out, hdl.out, partT_more hx (by omega), ByteArray.toList_eq ⟨#[47]⟩]
          simp
        have hSz : (S ++ ⟨#[47]⟩ ++ d).size ≤ 20 * (k + 1) := by
          rw [ByteArray.size_append, ByteArray.size_append, show (⟨#[47]⟩ : ByteArray).size = 1 from rfl]
          omega
        clear hx y0 c0
        go_wp2_with fail
        refine HV.out.mono ?_
        rintro e w2 ⟨rfl, k2⟩
        go_wp2_with fail
        go_roundw
        case rel => exact ⟨k + 1, _, hlt, by go_num, rfl, HT, hSz, hkp.trans k2⟩
        case measure =>
          simp [intOf]
          omega
    · obtain rfl : k = n := by omega
      have htk : p.take k = p := List.take_of_length_le (by omega)
      rw [htk] at HS
      by_cases c0 : k = 0
      · obtain rfl : p = [] := List.length_eq_zero_iff.1 (by omega)
        have e1 : (S.toList == []) = true := by rw [HS.out]; rfl
        have e2 : S.toList.isEmpty = true := by rw [HS.out]; rfl
        clear HS htk c0
        go_wp2_with fail
        go_ret
        exact ⟨rfl, hkp⟩
      · have hne : partT p = pathT p := by
          cases p with
          | nil => simp at hl; omega
          | cons x l => rfl
        rw [hne] at HS
        have hpos : S.toList ≠ [] := by
          rw [HS.out]
          cases p with
          | nil => simp at hl; omega
          | cons x l =>
            intro e
            exact dec_ne x (List.append_eq_nil_iff.1 e).1
        have e1 : (S.toList == []) = false := by simpa using hpos
        have e2 : S.toList.isEmpty = false := by simpa using hpos
        have HE : Hid (S = strB (pathT p)) := by
          unfold Hid
          apply cstr_eq
          rw [strB_list, HS.out]
        clear HS htk c0 hne hpos
        go_wp2_with fail
        go_ret
        exact ⟨by rw [← HE.out]; rfl, hkp⟩
end Go.Proofs.YtmcmicgdkdbgjaaDoor
