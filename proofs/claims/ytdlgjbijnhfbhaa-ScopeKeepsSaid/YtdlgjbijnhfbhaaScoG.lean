/- slices.SortFunc at bindings, by their prefixes: the library's contract laid at this program. -/
import Derived.Shelf.SlSortCmp.NoneTotal
import Derived.Test.YtdlgjbijnhfbhaaScoA
import Derived.Test.YtdlgjbijnhfbhaaScoW
namespace Go.Proofs.Ytdlgjbijnhfbhaa
open Go.Shelf Go.RowKit Go.Lib Go.Sort Go.Op
attribute [local go_sem ↓] Go.wp_at_zero Go.wp_at_succ

def sortRen : Go.Shelf.Ren := ⟨fun | 6 => 30 | 14 => 43 | 15 => 44 | 20 => 54 | 21 => 55 | 22 => 56 | 23 => 57 | 24 => 58 | 25 => 59 | 26 => 60 | 27 => 61 | 28 => 62 | 29 => 63 | 46 => 72 | 47 => 73 | 48 => 74 | 49 => 75 | 50 => 76 | 57 => 86 | n => n, fun | 0 => 0 | 3 => 3 | 4 => 4 | 5 => 5 | 9 => 9 | 22 => 42 | 24 => 45 | 25 => 66 | 39 => 76 | 45 => 81 | 46 => 82 | 50 => 86 | 53 => 89 | 55 => 91 | 66 => 102 | 70 => 106 | 76 => 118 | 77 => 119 | n => n, fun | n => n⟩
set_option maxRecDepth 100000 in
theorem sortLays : SlLaysF0.n6 Try.prog sortRen := {
  mixed := by kernel_rfl
  f6 := ⟨Try.f30.name, by decide, Try.func30.trans (congrArg some (by kernel_rfl))⟩
  f14 := ⟨Try.f43.name, by decide, Try.func43.trans (congrArg some (by kernel_rfl))⟩
  f15 := Try.func44.trans (congrArg some (by kernel_rfl))
  f20 := ⟨Try.f54.name, by decide, Try.func54.trans (congrArg some (by kernel_rfl))⟩
  f21 := ⟨Try.f55.name, by decide, Try.func55.trans (congrArg some (by kernel_rfl))⟩
  f22 := ⟨Try.f56.name, by decide, Try.func56.trans (congrArg some (by kernel_rfl))⟩
  f23 := ⟨Try.f57.name, by decide, Try.func57.trans (congrArg some (by kernel_rfl))⟩
  f24 := ⟨Try.f58.name, by decide, Try.func58.trans (congrArg some (by kernel_rfl))⟩
  f25 := ⟨Try.f59.name, by decide, Try.func59.trans (congrArg some (by kernel_rfl))⟩
  f26 := ⟨Try.f60.name, by decide, Try.func60.trans (congrArg some (by kernel_rfl))⟩
  f27 := ⟨Try.f61.name, by decide, Try.func61.trans (congrArg some (by kernel_rfl))⟩
  f28 := Try.func62.trans (congrArg some (by kernel_rfl))
  f29 := Try.func63.trans (congrArg some (by kernel_rfl))
  f46 := ⟨Try.f72.name, by decide, Try.func72.trans (congrArg some (by kernel_rfl))⟩
  f47 := Try.func73.trans (congrArg some (by kernel_rfl))
  f48 := Try.func74.trans (congrArg some (by kernel_rfl))
  f49 := ⟨Try.f75.name, by decide, Try.func75.trans (congrArg some (by kernel_rfl))⟩
  f50 := ⟨Try.f76.name, by decide, Try.func76.trans (congrArg some (by kernel_rfl))⟩
  f57 := ⟨Try.f86.name, by decide, Try.func86.trans (congrArg some (by kernel_rfl))⟩
  t0 := Try.underlying0
  a0 := Try.isAgg0
  z0 := Try.sizeOf0
  v0 := Try.zeroValue0
  t3 := Try.underlying3
  a3 := Try.isAgg3
  z3 := Try.sizeOf3
  v3 := Try.zeroValue3
  t4 := Try.underlying4
  a4 := Try.isAgg4
  z4 := Try.sizeOf4
  v4 := Try.zeroValue4
  t5 := Try.underlying5
  a5 := Try.isAgg5
  z5 := Try.sizeOf5
  v5 := Try.zeroValue5
  t9 := Try.underlying9
  a9 := Try.isAgg9
  z9 := Try.sizeOf9
  v9 := Try.zeroValue9
  t22 := Try.underlying42
  a22 := Try.isAgg42
  z22 := Try.sizeOf42
  v22 := Try.zeroValue42
  t25 := Try.underlying66
  a25 := Try.isAgg66
  z25 := Try.sizeOf66
  v25 := Try.zeroValue66
  t39 := Try.underlying76
  a39 := Try.isAgg76
  z39 := Try.sizeOf76
  v39 := Try.zeroValue76
  t45 := Try.underlying81
  a45 := Try.isAgg81
  z45 := Try.sizeOf81
  v45 := Try.zeroValue81
  t46 := Try.underlying82
  a46 := Try.isAgg82
  z46 := Try.sizeOf82
  v46 := Try.zeroValue82
  t50 := Try.underlying86
  a50 := Try.isAgg86
  z50 := Try.sizeOf86
  v50 := Try.zeroValue86
  t53 := Try.underlying89
  a53 := Try.isAgg89
  z53 := Try.sizeOf89
  v53 := Try.zeroValue89
  t55 := Try.underlying91
  a55 := Try.isAgg91
  z55 := Try.sizeOf91
  v55 := Try.zeroValue91
  t66 := Try.underlying102
  a66 := Try.isAgg102
  z66 := Try.sizeOf102
  v66 := Try.zeroValue102
  t70 := Try.underlying106
  a70 := Try.isAgg106
  z70 := Try.sizeOf106
  v70 := Try.zeroValue106
  t76 := Try.underlying118
  a76 := Try.isAgg118
  z76 := Try.sizeOf118
  v76 := Try.zeroValue118
  t77 := Try.underlying119
  a77 := Try.isAgg119
  z77 := Try.sizeOf119
  v77 := Try.zeroValue119 }

/-- Blocks and draws behind a world, nothing else. -/
def Grew (w w' : World) : Prop := ∃ q os, w' = grow (w.drewN q) os
theorem Grew.refl (w : World) : Grew w w := ⟨0, #[], by rw [grow_empty]; rfl⟩
theorem Grew.alloc {a w : World} (h : Grew a w) (o : Obj) : Grew a (w.alloc o) := by
  obtain ⟨q, os, rfl⟩ := h
  exact ⟨q, os ++ #[o], by rw [alloc_eq_grow, grow_grow]⟩
theorem isNaNS_any (a : ByteArray) (w : World) : Calls Try.prog 45 #[.string a] w fun e w' => e = .returned (.bool false) ∧ w = w' := by
  have hz : (a.toList != a.toList) = false := by simp
  go_enter Try.func45, Try.ntmps45
  go_wp2_with fail
  go_ret
  exact ⟨rfl, rfl⟩
theorem cmpS_any (a b : ByteArray) (w : World) : Calls Try.prog 32 #[.string a, .string b] w fun e w' => e = .returned (.int .i64 (cmpS a b)) ∧ w = w' := by
  have HC : Hid (cmpS a b = if bytesLess a.toList b.toList then -1 else if bytesLess b.toList a.toList then 1 else 0) := rfl
  obtain ⟨z, hz⟩ : ∃ z, cmpS a b = z := ⟨_, rfl⟩
  rw [hz] at HC ⊢
  clear hz
  cases h1 : bytesLess a.toList b.toList with
  | true =>
    have HZ : Hid (z = -1) := by have := HC.out; rw [h1] at this; exact this
    clear HC
    go_enter Try.func32, Try.ntmps32
    go_wp2_with (go_at_call 45; refine (isNaNS_any _ _).mono ?_; rintro e w' ⟨rfl, rfl⟩)
    go_ret
    exact ⟨ret_int HZ.out.symm, rfl⟩
  | false =>
    cases h2 : (a.toList == b.toList) with
    | true =>
      have HZ : Hid (z = 0) := by
        have := HC.out
        rw [h1] at this
        have e := beq_iff_eq.1 h2
        rw [e, less_irrefl] at this
        exact this
      clear HC
      go_enter Try.func32, Try.ntmps32
      go_wp2_with (go_at_call 45; refine (isNaNS_any _ _).mono ?_; rintro e w' ⟨rfl, rfl⟩)
      go_ret
      exact ⟨ret_int HZ.out.symm, rfl⟩
    | false =>
      have HZ : Hid (z = 1) := by
        have := HC.out
        rw [h1] at this
        cases h3 : bytesLess b.toList a.toList with
        | true => rw [h3] at this; exact this
        | false =>
          have e := less_total _ _ h1 h3
          rw [e] at h2
          simp at h2
      clear HC
      go_enter Try.func32, Try.ntmps32
      go_wp2_with (go_at_call 45; refine (isNaNS_any _ _).mono ?_; rintro e w' ⟨rfl, rfl⟩)
      go_ret
      exact ⟨ret_int HZ.out.symm, rfl⟩
theorem cmpB_any (x y : Bd) (w : World) : Calls Try.prog 31 #[.agg #[.string x.p, .string x.u], .agg #[.string y.p, .string y.u]] w fun e w' => e = .returned (.int .i64 (cmpB x y)) ∧ Grew w w' := by
  have HC := Lib.hid (fun w => cmpS_any x.p y.p w)
  have HE : Hid (cmpB x y = cmpS x.p y.p) := rfl
  obtain ⟨z, hz⟩ : ∃ z, cmpS x.p y.p = z := ⟨_, rfl⟩
  rw [hz] at HE
  clear hz
  go_enter Try.func31, Try.ntmps31
  go_wp2_with fail
  refine (HC.out _).mono ?_
  rintro e w' ⟨rfl, rfl⟩
  go_wp2_with fail
  go_ret
  exact ⟨rfl, ((Grew.refl _).alloc _).alloc _⟩
theorem bd_one (x : Bd) : ∀ v ∈ x.cells, v.oneCell' = true := by
  intro v hv
  simp [Bd.cells] at hv
  rcases hv with rfl | rfl <;> rfl
theorem extract_all {α : Type} (d : Array α) : (d.extract 0 d.size).toList = d.toList := by simp
theorem sortB_any (g cap : Nat) (L : List Bd) (W w : World) (hk : Kept W w) (hg : W.heap.size ≤ g) (hS : Sl w 2 (some ⟨g, 0, none⟩) L.length cap (L.flatMap Bd.cells)) (hf : ∀ j, j < L.length * 2 → w.frozen? ⟨g, j, none⟩ = false) (hb : g < w.heap.size) (hn : L.length ≤ 1000000) :
    Calls Try.prog 30 #[.slice (some ⟨g, 0, none⟩) L.length cap, .func (.func 31) #[] #[]] w fun e w' =>
      ∃ L' : List Bd, e = .returned (.tuple #[]) ∧ L'.Perm L ∧ SortedIn (ltOf cmpB) 0 L'.length L'.toArray ∧ Sl w' 2 (some ⟨g, 0, none⟩) L'.length cap (L'.flatMap Bd.cells) ∧ Kept W w' := by
  have hcap := hS.cap
  have hmax := hS.2.2.1
  have hH := holdsK_of_sl (k := 2) (fun _ => rfl) hS rfl hf
  refine (AnyQ.slices_SortFunc sortLays 2 Try.isAgg45 Try.sizeOf45 Bd.cells (fun _ => rfl) bd_one cmpB swo_cmpB 31 #[] g 0 cap L.toArray w (enters_of Try.func31 (by kernel_rfl) rfl)
    (fun m os dk hdk x y => (cmpB_any x y _).mono fun e w' h => h) hH hb (by simp; omega)).mono ?_
  rintro e w' ⟨rfl, d', q, os, hp, hs, rfl⟩
  obtain ⟨h1, _, h3⟩ := hp
  have hsz : d'.size = L.length := by simpa using h1
  have hperm : d'.toList.Perm L := by
    have : (d'.extract 0 d'.size).toList.Perm (L.toArray.extract 0 L.toArray.size).toList := by rw [h1]; exact h3
    rw [extract_all, extract_all] at this
    simpa using this
  have hl : d'.toList.length = L.length := by simpa using hsz
  refine ⟨d'.toList, rfl, hperm, ?_, ?_, kept_sortWorldK hk hg _ _ _⟩
  · rw [hl]
    simpa using hs
  · refine sl_of_holdsK (fun _ => rfl) ?_ rfl (by omega) hmax
    have := holdsK_sortWorldK_c Bd.cells 2 w g 0 L.toArray d' q os hH hb (by simp [hsz])
    simpa using this
theorem sortB_none (A : Option Addr) (cap : Nat) (fv : Value) (w : World) :
    Calls Try.prog 30 #[.slice A 0 cap, fv] w fun e w' => e = .returned (.tuple #[]) ∧ w' = w :=
  AnyF.slices_SortFunc_none sortLays A cap fv w
end Go.Proofs.Ytdlgjbijnhfbhaa
