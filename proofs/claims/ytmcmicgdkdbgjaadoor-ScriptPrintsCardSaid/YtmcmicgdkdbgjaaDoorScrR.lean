/- Paths: path.Read, walked. -/
import Derived.Test.YtmcmicgdkdbgjaaDoorScrS
import Derived.Test.YtmcmicgdkdbgjaaDoorScrN
namespace Go.Proofs.YtmcmicgdkdbgjaaDoor
open Go.RowKit
attribute [local go_sem ↓] Go.wp_at_zero Go.wp_at_succ

theorem appT_its : AppT Tryd.prog 35 3 1 := appT_mk (z := .int .i64 0) (bytes := 8) Tryd.underlying35 (by kernel_rfl) rfl (by omega) (by omega)
def natV (n : Nat) : Value := .int .i64 (n : Int)
/-- A path, or that there is none. -/
def PathOf (o : Option (List Nat)) (w : World) (e : Ending) (w' : World) : Prop := Kept w w' ∧ match o with
  | none => e = .returned (.tuple #[.slice none 0 0, .bool false])
  | some p => ∃ VA VC, e = .returned (.tuple #[.slice VA p.length VC, .bool true]) ∧ Sl w' 1 VA p.length VC (p.map natV) ∧ ∀ b o, VA = some ⟨b, o, none⟩ → w.heap.size ≤ b
theorem own_base {w : World} {base : Nat} {e : TypeId} {s n m c : Nat} {A : Option Addr} {xs : List Value} (h : w.ownsRow base e s (.slice A n c) m xs) : ∀ b o, A = some ⟨b, o, none⟩ → base ≤ b := by
  intro b o e
  subst e
  exact (h.lt b rfl).1
theorem allF_none {a b : List Bs} {x : Bs} (h : numF x = none) : allF (a ++ x :: b) = none := by
  rw [allF_app]
  cases allF a with
  | none => rfl
  | some p =>
    rw [allF, h]
    rfl
theorem allF_snoc {a : List Bs} {x : Bs} {p : List Nat} {n : Nat} (ha : allF a = some p) (h : numF x = some n) : allF (a ++ [x]) = some (p ++ [n]) := by
  rw [allF_app, ha, allF, h]
  rfl
theorem splitF_len (c : UInt8) : ∀ l : Bs, (splitF c l).length ≤ l.length + 1
  | [] => Nat.le_refl _
  | b :: l => by
    have := splitF_len c l
    unfold splitF
    split
    · simp only [List.length_cons]
      omega
    · split
      · simp
      · rename_i h
        rw [h] at this
        simp only [List.length_cons] at this ⊢
        omega
theorem splitF_mem (c : UInt8) : ∀ (l : Bs), ∀ x ∈ splitF c l, x.length ≤ l.length
  | [], x, hx => by
    rw [List.mem_singleton.1 hx]
    exact Nat.le_refl _
  | b :: l, x, hx => by
    have ih := splitF_mem c l
    unfold splitF at hx
    split at hx
    · rcases List.mem_cons.1 hx with rfl | hx
      · simp
      · have := ih x hx
        simp only [List.length_cons]
        omega
    · split at hx
      · rw [List.mem_singleton.1 hx]
        simp
      · rename_i w ws h
        rw [h] at ih
        rcases List.mem_cons.1 hx with rfl | hx
        · have := ih w (by simp)
          simp only [List.length_cons]
          omega
        · have := ih x (by simp [hx])
          simp only [List.length_cons]
          omega
theorem map_at {L : List ByteArray} {k : Nat} {x : ByteArray} (hx : L[k]? = some x) : L.map (·.toList) = (L.take k).map (·.toList) ++ x.toList :: (L.drop (k + 1)).map (·.toList) := by
  obtain ⟨h1, h2⟩ := List.getElem?_eq_some_iff.1 hx
  conv => lhs; rw [← List.take_append_drop k L, List.drop_eq_getElem_cons h1, h2]
  simp
theorem split_size {c : UInt8} {s : ByteArray} {L : List ByteArray} (h : L.map (·.toList) = splitF c s.toList) : L.length ≤ s.size + 1 ∧ ∀ x ∈ L, x.size ≤ s.size := by
  constructor
  · have := splitF_len c s.toList
    rw [← h, List.length_map, bytes_len] at this
    exact this
  · intro x hx
    have := splitF_mem c s.toList x.toList (by rw [← h]; exact List.mem_map.2 ⟨x, hx, rfl⟩)
    rw [bytes_len, bytes_len] at this
    exact this
set_option maxRecDepth 100000 in
set_option maxHeartbeats 4000000 in
theorem pread_any (s : ByteArray) (w : World) (hs : s.size ≤ 1000000) : Calls Tryd.prog 71 #[.string s] w fun e w' => PathOf (pathF s.toList) w e w' := by
  have HP : Hid (pathF s.toList = if s.toList = [46] then some [] else allF (splitF 47 s.toList)) := rfl
  obtain ⟨z, hz⟩ : ∃ z, pathF s.toList = z := ⟨_, rfl⟩
  rw [hz] at HP ⊢
  clear hz
  by_cases h0 : s.toList = [46]
  · have HZ : Hid (z = some []) := by have := HP.out; rwa [if_pos h0] at this
    have e1 : (s.toList == [46]) = true := by rw [h0]; rfl
    clear HP h0
    go_enter Tryd.func71, Tryd.ntmps71
    go_wp2_with fail
    go_ret2
    rw [HZ.out]
    exact ⟨Kept.refl _, none, 0, rfl, Sl.nil_, fun b o e => by cases e⟩
  · have HZ : Hid (z = allF (splitF 47 s.toList)) := by have := HP.out; rwa [if_neg h0] at this
    have e1 : (s.toList == [46]) = false := by simpa using h0
    have HC := Lib.hid (split_any 47 s w hs)
    clear HP h0
    go_enter Tryd.func71, Tryd.ntmps71
    go_wp2_with fail
    refine HC.out.mono ?_
    rintro e w1 ⟨VA, VC, L, rfl, hL, hLs, k1⟩
    have HLS := Lib.hid hLs
    have hcap := hL.cap
    have hmax := hL.max
    obtain ⟨M, hM⟩ : ∃ M, L.length = M := ⟨_, rfl⟩
    have HM := Lib.hid hM
    have hSZ := split_size hLs
    rw [hM] at hL hcap hSZ ⊢
    have hMb : M ≤ 1000001 := by omega
    have HSZ := Lib.hid hSZ.2
    clear hLs HC hM hSZ
    go_wp2_with fail
    go_loopw [4, 14] (fun v i wr => ∃ (k : Nat) (N : List Nat), k ≤ M ∧ i = .int .i64 k ∧ N.length = k ∧ wr.ownsRow w1.heap.size 3 1 v k (N.map natV) ∧ Kept w1 wr ∧ Hid (allF ((L.take k).map (·.toList)) = some N)) (fun _ i _ => M - (intOf i).toNat)
    case atStart => exact ⟨0, [], Nat.zero_le _, rfl, rfl, ⟨rfl, .inl ⟨rfl, rfl⟩⟩, Kept.refl _, rfl⟩
    case round =>
      obtain ⟨k, N, hk, rfl, hN, hown, hk1, HA⟩ := hrel
      by_cases hlt : k < M
      · obtain ⟨b, o, x, rfl, hx, x0, hb⟩ := (hL.kept hk1).oneb hlt
        have HX := Lib.hid hx
        have hxs : x.size ≤ 1000000 := Nat.le_trans (HSZ.out x (List.mem_of_getElem? hx)) hs
        have HV := Lib.hid (value_any x wr hxs)
        have HSP := Lib.hid (map_at hx)
        have HS1 : Hid ((L.take (k + 1)).map (·.toList) = (L.take k).map (·.toList) ++ [x.toList]) := by
          unfold Hid
          rw [List.take_add_one, HX.out, List.map_append]
          rfl
        clear hx
        cases hv : numF x.toList with
        | none =>
          have HZ2 : Hid (z = none) := by
            unfold Hid
            rw [HZ.out, ← HLS.out, HSP.out]
            exact allF_none hv
          rw [hv] at HV
          have HV0 : Hid (Calls Tryd.prog 78 #[.string x] wr fun e w' => e = .returned (.tuple #[.int .i64 0, .bool false]) ∧ Kept wr w') := HV
          clear hv HZ HV
          go_wp2_with fail
          refine HV0.out.mono ?_
          rintro e w2 ⟨rfl, k2⟩
          go_wp2_with fail
          go_ret2
          rw [HZ2.out]
          exact ⟨(k1.trans hk1).trans k2, rfl⟩
        | some n =>
          have HA2 : Hid (allF ((L.take (k + 1)).map (·.toList)) = some (N ++ [n])) := by
            unfold Hid
            rw [HS1.out]
            exact allF_snoc HA.out hv
          rw [hv] at HV
          have HV0 : Hid (Calls Tryd.prog 78 #[.string x] wr fun e w' => e = .returned (.tuple #[.int .i64 (n : Int), .bool true]) ∧ Kept wr w') := HV
          clear hv HV
          go_wp2_with fail
          refine HV0.out.mono ?_
          rintro e w2 ⟨rfl, k2⟩
          have hk2 := hk1.trans k2
          have hown2 := own_kept hown k2
          go_wp2_with (at_builtin; refine wpList_push w1 (by rfl) _ _ (by rfl) appT_its (by rfl) hown2 hk2 (by rfl) ?_ ?_; (exact ⟨by rfl, by rfl, by rfl, by omega⟩); intro v' w3 hown3 hk3 hgr3 hob3)
          go_roundw
          case rel => 
            exact ⟨k + 1, N ++ [n], hlt, by go_num, by simp [hN], by rw [List.map_append]; exact hown3, hk3, HA2⟩
          case measure =>
            simp [intOf]
            omega
      · obtain rfl : k = M := by omega
        have HZ2 : Hid (z = some N) := by
          have h1 := HA.out
          rw [List.take_of_length_le (by have := HM.out; omega), HLS.out] at h1
          unfold Hid
          rw [HZ.out, h1]
        obtain ⟨NA, NC, rfl, hNs⟩ := Sl.of_own hown
        clear HZ
        go_wp2_with fail
        go_ret2
        rw [HZ2.out]
        exact ⟨k1.trans hk1, NA, NC, by rw [hN]; rfl, by rw [hN]; exact hNs, fun b o e => Nat.le_trans k1.size (own_base hown b o e)⟩
end Go.Proofs.YtmcmicgdkdbgjaaDoor
