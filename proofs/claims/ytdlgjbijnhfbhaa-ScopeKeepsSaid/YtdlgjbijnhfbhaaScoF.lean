/- Push and Find of scopes: walked. -/
import Derived.Test.YtdlgjbijnhfbhaaScoW
namespace Go.Proofs.Ytdlgjbijnhfbhaa
open Go.RowKit
attribute [local go_sem ↓] Go.wp_at_zero Go.wp_at_succ

theorem drop_cons {α : Type} {l : List α} {k : Nat} {x : α} (h : l[k]? = some x) : l.drop k = x :: l.drop (k + 1) := by
  obtain ⟨hk, rfl⟩ := List.getElem?_eq_some_iff.1 h
  exact List.drop_eq_getElem_cons hk
theorem take_cons {α : Type} {l : List α} {k : Nat} {x : α} (h : l[k]? = some x) : l.take (k + 1) = l.take k ++ [x] := by
  rw [List.take_add_one, h]
  rfl
theorem cloneB_any (A : Option Addr) (n c : Nat) (l : List Bd) (w : World) (h : Sl w 2 A n c (l.flatMap Bd.cells)) (hn : n ≤ 1000000) :
    Calls Try.prog 34 #[.slice A n c] w fun e w' => ∃ VA VC, e = .returned (.slice VA n VC) ∧ Sl w' 2 VA n VC (l.flatMap Bd.cells) ∧ Kept w w' := by
  have hnil := fun w' => Lib.run_eql_slice_nil (P := Try.prog) w' 42 45 A n c 0 0 Try.underlying42
  cases A with
  | none =>
    have h0 : n = 0 := by
      rcases Nat.eq_zero_or_pos n with h0 | h0
      · exact h0
      · obtain ⟨b, o, e, _⟩ := h.at_ h0
        cases e
    subst h0
    have hl : l.flatMap Bd.cells = [] := List.eq_nil_of_length_eq_zero (by simpa using h.len)
    have HL := Lib.hid hl
    clear hl
    go_enter Try.func34, Try.ntmps34
    go_wp2_with fail
    go_ret
    exact ⟨none, 0, rfl, by rw [HL.out]; exact Sl.nil_, Kept.refl _⟩
  | some a =>
    have hown := own_lit (w := w) (base := w.heap.size) (e := 45) (size := 2) (n := 0) (cs := []) (by rfl) (by omega) (Nat.le_refl _)
    have hk0 := (Kept.refl w).alloc (.cells #[] 45)
    go_enter Try.func34, Try.ntmps34
    go_wp2_with (at_builtin; refine wpList_appk w (by rfl) _ _ (by rfl) appT_bds (by rfl) hown hk0 (by rfl) (h.kept hk0) ?_ ?_; (exact ⟨bds_one _, by omega⟩); (intro v' w' hown' hk' hgr hob; obtain ⟨VA', VC', rfl, hVs⟩ := Sl.of_own hown'))
    go_ret
    exact ⟨VA', VC', rfl, by rw [Nat.zero_add] at hVs; exact hVs, hk'⟩

def eff (ls : List (List Bd)) : List (List Bd) := if ls.isEmpty then [root] else ls
theorem eff_cons (l : List Bd) (ls : List (List Bd)) : eff (l :: ls) = l :: ls := rfl
theorem scope_ptr {w : World} {v : Value} {ls : List (List Bd)} (h : ScopeAt w v ls) : (v = .pointer none ∧ ls = []) ∨ (∃ g l ls', v = .pointer (some ⟨g, 0, none⟩) ∧ ls = l :: ls') := by
  cases ls with
  | nil => exact .inl ⟨h, rfl⟩
  | cons l ls =>
    obtain ⟨g, _, _, _, _, hv, _⟩ := h
    exact .inr ⟨g, l, ls, hv, rfl⟩
/-- What Push answers. -/
def PushedOf (l : List Bd) (ls : List (List Bd)) (w : World) (e : Ending) (w' : World) : Prop :=
  Kept w w' ∧ ((codeF [] l ≠ 0 ∧ e = .returned (.tuple #[.pointer none, .int .i64 (codeF [] l)])) ∨ (codeF [] l = 0 ∧ ∃ g, e = .returned (.tuple #[.pointer (some ⟨g, 0, none⟩), .int .i64 0]) ∧ ScopeAt w' (.pointer (some ⟨g, 0, none⟩)) (l :: eff ls)))

set_option maxHeartbeats 8000000 in
theorem push_any (v : Value) (ls : List (List Bd)) (A : Option Addr) (n c : Nat) (L : List Bd) (w : World) (hs : ScopeAt w v ls) (h : Sl w 2 A n c (L.flatMap Bd.cells)) (hn : n ≤ 1000000) :
    Calls Try.prog 18 #[v, .slice A n c] w fun e w' => PushedOf L ls w e w' := by
  have hL := h.llen (enc := Bd.cells) (fun _ => rfl) (by omega)
  have HL := Lib.hid hL
  have hcap := h.cap
  have hmax := h.max
  clear hL
  have HS := Lib.hid hs
  clear hs
  go_enter Try.func18, Try.ntmps18
  go_wp2_with fail
  go_loopw [11] (fun i wr => ∃ k : Nat, k ≤ n ∧ i = .int .i64 k ∧ Kept w wr ∧ Hid (codeF [] L = codeF (L.take k) (L.drop k))) (fun i _ => n - (intOf i).toNat)
  case atStart => exact ⟨0, Nat.zero_le _, rfl, Kept.refl _, rfl⟩
  case round =>
    obtain ⟨k, hk, rfl, hkept, hinv⟩ := hrel
    by_cases hlt : k < n
    · obtain ⟨b, o, x, rfl, hx, x0, x1, hb⟩ := elem_bd (h.kept hkept) hlt
      have kb : Kept wr _ := (Kept.refl wr).alloc (.cells #[.string x.p, .string x.u] 45)
      have bx := Blk.new wr #[.string x.p, .string x.u] 45
      have hst : codeF [] L = if wrongF x (L.take k) = 0 then codeF (L.take (k + 1)) (L.drop (k + 1)) else wrongF x (L.take k) := by
        rw [hinv.out, drop_cons hx, take_cons hx]
        rfl
      have hcut := run_cut_h appT_bds (some ⟨b, o, none⟩) n c k (by omega)
      have p1 : (0 : Int) ≤ k := by omega
      have p2 : (k : Int) ≤ c := by omega
      have ht := fun w' (hk : Kept wr w') => (((h.kept hkept).kept hk).to (m := k) (by omega))
      go_upto_region 4 with fail
      generalize wr.alloc (.cells #[.string x.p, .string x.u] 45) = w3 at kb bx ⊢
      obtain ⟨g3, hg3⟩ : ∃ g3, wr.heap.size = g3 := ⟨_, rfl⟩
      rw [hg3] at bx ⊢
      clear hg3
      have c0 : ∀ p : KeptFrom w3, p.x.cell? ⟨g3, 0, none⟩ = some (.string x.p) := fun p => (bx.kept p.k).cell 0
      have c1 : ∀ p : KeptFrom w3, p.x.cell? ⟨g3, 1, none⟩ = some (.string x.u) := fun p => (bx.kept p.k).cell 1
      have hw : ∀ p : KeptFrom w3, Calls Try.prog 33 #[.agg #[.string x.p, .string x.u], .slice (some ⟨b, o, none⟩) k c] p.x fun e w' => e = .returned (.int .i64 (wrongF x (L.take k))) ∧ Kept p.x w' := fun p => by
        refine wrong_any x _ _ _ (L.take k) p.x ?_
        have := ht p.x (kb.trans p.k)
        rwa [flat_take (s := 2) (enc := Bd.cells) (fun _ => rfl)] at this
      obtain ⟨z, hz⟩ : ∃ z, wrongF x (L.take k) = z := ⟨_, rfl⟩
      rw [hz] at hw hst
      have HW := Lib.hid hw
      have HST := Lib.hid hst
      clear hw hst ht hinv hz hx
      by_cases h0 : z = 0
      · subst h0
        refine wp_region_kept (by kernel_rfl) (by kernel_rfl) ?_
        repeat (quiet_step ((go_at_call 33; exact Calls.kept_of (HW.out _))))
        refine wpQuiet_nil ?_
        rintro _ ⟨⟨w4, k4⟩, rfl⟩
        go_wp2_with fail
        go_roundw
        case rel => exact ⟨k + 1, hlt, by go_num, (hkept.trans kb).trans k4, by unfold Hid; rw [HST.out, if_pos rfl]⟩
        case measure =>
          simp [intOf]
          omega
      · have d1 : (z != 0) = true := by simpa using h0
        have hE : codeF [] L = z := by rw [HST.out, if_neg h0]
        have HE := Lib.hid hE
        have H0 := Lib.hid h0
        clear hE h0
        refine wp_region_kept (by kernel_rfl) (by kernel_rfl) ?_
        repeat (quiet_step ((go_at_call 33; exact Calls.kept_of (HW.out _))))
        refine wpQuiet_nil ?_
        rintro _ ⟨⟨w4, k4⟩, rfl⟩
        go_wp2_with fail
        go_ret2
        exact ⟨(hkept.trans kb).trans k4, .inl ⟨by rw [HE.out]; exact H0.out, by rw [HE.out]; rfl⟩⟩
    · obtain rfl : k = n := by omega
      have hE : codeF [] L = 0 := by
        rw [hinv.out, List.drop_eq_nil_of_le (by have := HL.out; omega)]
        rfl
      have HE := Lib.hid hE
      clear hE hinv
      obtain ⟨w5, hw5⟩ : ∃ z, z = wr := ⟨_, rfl⟩
      subst hw5
      rcases scope_ptr HS.out with ⟨rfl, rfl⟩ | ⟨g, l, ls', rfl, rfl⟩
      · go_wp2_with fail
        refine (new_any _).mono ?_
        rintro e w6 ⟨g, rfl, hsc, k6⟩
        have k56 := hkept.trans k6
        go_wp2_with fail
        refine (cloneB_any _ _ _ L _ (h.kept k56) hn).mono ?_
        rintro e w7 ⟨VA, VC, rfl, hV, k7⟩
        have hsc7 := hsc.kept k7
        go_wp2_with fail
        go_ret2
        exact ⟨(k56.trans k7).alloc _, .inr ⟨HE.out, _, rfl, ⟨_, VA, k, VC, _, rfl, Blk.new _ _ _, hV.kept ((Kept.refl _).alloc _), hsc7.kept ((Kept.refl _).alloc _)⟩⟩⟩
      · have hsc := HS.out.kept hkept
        go_wp2_with fail
        refine (cloneB_any _ _ _ L _ (h.kept hkept) hn).mono ?_
        rintro e w7 ⟨VA, VC, rfl, hV, k7⟩
        have hsc7 := hsc.kept k7
        go_wp2_with fail
        go_ret2
        exact ⟨(hkept.trans k7).alloc _, .inr ⟨HE.out, _, rfl, ⟨_, VA, k, VC, _, rfl, Blk.new _ _ _, hV.kept ((Kept.refl _).alloc _), hsc7.kept ((Kept.refl _).alloc _)⟩⟩⟩

theorem findB_nil (p : ByteArray) : findB p [] = none := rfl
theorem findB_hit {p : ByteArray} {x : Bd} {l : List Bd} (h : eqS x.p p = true) : findB p (x :: l) = some x := by
  unfold findB
  rw [List.find?_cons, h]
theorem findB_miss {p : ByteArray} {x : Bd} {l : List Bd} (h : eqS x.p p = false) : findB p (x :: l) = findB p l := by
  unfold findB
  rw [List.find?_cons, h]
theorem findS_cons (p : ByteArray) (l : List Bd) (ls : List (List Bd)) : findS p (l :: ls) = (findB p l).or (findS p ls) := by
  unfold findS
  rw [List.flatten_cons, findB_append]
def FoundOf (o : Option Bd) (w : World) (e : Ending) (w' : World) : Prop :=
  e = .returned (.tuple #[.string (match o with | some b => b.u | none => ⟨#[]⟩), .bool o.isSome]) ∧ Kept w w'
set_option maxHeartbeats 8000000 in
theorem find_any (v : Value) (ls : List (List Bd)) (p : ByteArray) (w : World) (hs : ScopeAt w v ls) :
    Calls Try.prog 9 #[v, .string p] w fun e w' => FoundOf (findS p (eff ls)) w e w' := by
  obtain ⟨LS, hLS⟩ : ∃ z, eff ls = z := ⟨_, rfl⟩
  have HLS := Lib.hid hLS
  rw [hLS]
  have HS := Lib.hid hs
  clear hs hLS
  go_enter Try.func9, Try.ntmps9
  go_upto_region 1 with fail
  go_cut [10] (fun s wx => s = .bool ls.isEmpty ∧ wx = w)
  case first =>
    rcases scope_ptr HS.out with ⟨rfl, rfl⟩ | ⟨g, l, ls', rfl, rfl⟩
    · go_wp2_with fail
      go_meet
      exact ⟨rfl, rfl⟩
    · go_wp2_with fail
      go_meet
      exact ⟨rfl, rfl⟩
  case rest =>
  obtain ⟨rfl, rfl⟩ := hcut
  obtain ⟨w0, hw0⟩ : ∃ z, z = wc := ⟨_, rfl⟩
  subst hw0
  go_upto_if 10 with fail
  go_cut [0] (fun s wx => ScopeAt wx s LS ∧ Kept w0 wx)
  case first =>
    rcases scope_ptr HS.out with ⟨rfl, rfl⟩ | ⟨g, l, ls', rfl, rfl⟩
    · go_wp2_with fail
      refine (new_any _).mono ?_
      rintro e w6 ⟨g, rfl, hsc, k6⟩
      go_wp2_with fail
      go_meet
      exact ⟨by rw [← HLS.out]; exact hsc, k6⟩
    · go_wp2_with fail
      go_meet
      exact ⟨by rw [← HLS.out]; exact HS.out, Kept.refl _⟩
  case rest =>
  obtain ⟨hsc0, hk0⟩ := hcut
  have HS0 := Lib.hid hsc0
  clear hsc0 HS
  obtain ⟨w, hw⟩ : ∃ z, z = wc := ⟨_, rfl⟩
  subst hw
  go_wp2_with fail
  go_loopg [6] LS.length (fun gq s wr => ∃ rest, gq = rest.length ∧ ScopeAt w s rest ∧ Kept w wr ∧ Hid (findS p LS = findS p rest)) 
  case atStart => exact ⟨LS, rfl, HS0.out, Kept.refl _, rfl⟩
  case round =>
    obtain ⟨rest, hq, hsc, hkept, hinv⟩ := hrel
    cases rest with
    | nil =>
      have hv : u6 = .pointer none := hsc
      subst hv
      have hE : findS p LS = none := by rw [hinv.out]; rfl
      have HE := Lib.hid hE
      clear hE hinv hsc
      go_wp2_with fail
      go_ret2
      exact ⟨by rw [HE.out]; rfl, hk0.trans hkept⟩
    | cons l rest =>
      obtain ⟨g', A, n, c, u, rfl, hb, hS, hu⟩ := hsc
      have hcap := hS.cap
      have hmax := hS.max
      have hL := hS.llen (enc := Bd.cells) (fun _ => rfl) (by omega)
      have HL := Lib.hid hL
      have bf := (hb.kept hkept).cell
      clear hL
      obtain ⟨w2, hw2⟩ : ∃ z, z = wr := ⟨_, rfl⟩
      subst hw2
      have HQ := Lib.hid hq
      clear hq
      go_wp2_with fail
      go_loopw [24] (fun i wr => ∃ k : Nat, k ≤ n ∧ i = .int .i64 k ∧ Kept w wr ∧ Hid (findB p l = findB p (l.drop k))) (fun i _ => n - (intOf i).toNat)
      case atStart => exact ⟨0, Nat.zero_le _, rfl, hkept, rfl⟩
      case round =>
        obtain ⟨k, hk, rfl, hkr, hinj⟩ := hrel
        by_cases hlt : k < n
        · obtain ⟨b, o, x, rfl, hx, x0, x1, hbb⟩ := elem_bd (hS.kept hkr) hlt
          have hst := hinj.out
          rw [drop_cons hx] at hst
          cases hz : eqS x.p p
          · rw [findB_miss hz] at hst
            have HST := Lib.hid hst
            have hz' : (x.p.toList == p.toList) = false := hz
            clear hst hz hinj hx
            go_wp2_with fail
            go_roundw
            case rel => exact ⟨k + 1, hlt, by go_num, hkr.alloc _, HST.out⟩
            case measure =>
              simp [intOf]
              omega
          · rw [findB_hit hz] at hst
            have hE : findS p LS = some x := by rw [hinv.out, findS_cons, hst]; rfl
            have HE := Lib.hid hE
            have hz' : (x.p.toList == p.toList) = true := hz
            clear hst hz hinj hx hE
            go_wp2_with fail
            go_ret2
            exact ⟨by rw [HE.out]; rfl, hk0.trans (hkr.alloc _)⟩
        · have hE : findS p LS = findS p rest := by
            rw [hinv.out, findS_cons, hinj.out, List.drop_eq_nil_of_le (by have := HL.out; omega), findB_nil]
            rfl
          have HE := Lib.hid hE
          have bf2 := (hb.kept hkr).cell
          clear hE hinj
          go_wp2_with fail
          go_roundg rest.length
          case rel => exact ⟨rest, rfl, hu, hkr, HE.out⟩
          case measure =>
            rw [HQ.out]
            simp
end Go.Proofs.Ytdlgjbijnhfbhaa
