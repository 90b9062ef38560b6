/- What With makes is not too great; two rows of nodes that a call makes side by side; an argument that is a row of nodes. -/
import Derived.Test.YtnlncamiaddhfaaInfB
import Derived.Test.YtnlncamiaddhfaaInfH
import Derived.Test.YtnlncamiaddhfaaInfQ
namespace Go.Proofs.Ytnlncamiaddhfaa
open Go.ChangeShapes Go.WideShapes Go.ChangeAt Go.RowKit Go.Joins Go.Deep

/-- Nodes of at most five kids. -/
inductive Five : Tr → Prop
  | mk {k n bs al t g ks} : bs.length ≤ 100 → al.length ≤ 100 → ks.length ≤ 5 → (∀ x, x ∈ ks → Five x) → Five (.mk k n bs al t g ks)
theorem cut_five : ∀ (d : Nat) (x : Tr), Five (cutT d x)
  | 0, .mk k n bs al t g ks => .mk (by simp; omega) (by simp; omega) (by simp) (by simp)
  | d + 1, .mk k n bs al t g ks => .mk (by simp; omega) (by simp; omega) (by simp; omega) (by
      intro x hx
      obtain ⟨y, _, rfl⟩ := List.mem_map.1 hx
      exact cut_five d y)
theorem Five.small {x : Tr} (h : Five x) : Small x := by
  induction h with
  | mk h1 h2 h3 _ ih => exact .mk h1 h2 (by omega) ih
theorem small_text (t : ByteArray) : Small (Tr.text t) := .mk (by simp) (by simp) (by simp) (by simp)
theorem step_small {out : List Tr} {n : Tr} (ho : ∀ x ∈ out, Small x) (hn : Small n) : ∀ x ∈ mergeStep out n, Small x := by
  have happ : ∀ x ∈ out ++ [n], Small x := fun x hx => by
    rcases List.mem_append.1 hx with h | h
    · exact ho x h
    · rw [List.mem_singleton.1 h]
      exact hn
  unfold mergeStep
  split
  · split
    · exact ho
    · split
      · split
        · intro x hx
          rcases List.mem_append.1 hx with h | h
          · exact ho x (List.dropLast_subset _ h)
          · rw [List.mem_singleton.1 h]
            exact small_text _
        · exact happ
      · exact happ
  · exact happ
theorem fold_small : ∀ (l out : List Tr), (∀ x ∈ out, Small x) → (∀ x ∈ l, Small x) → ∀ x ∈ l.foldl mergeStep out, Small x
  | [], _, ho, _ => ho
  | y :: ys, out, ho, hl => by
    rw [List.foldl_cons]
    exact fold_small ys _ (step_small ho (hl y (by simp))) (fun x hx => hl x (by simp [hx]))
theorem merged_small {l : List Tr} (h : ∀ x ∈ l, Small x) : ∀ x ∈ mergedT l, Small x := fold_small l [] (by simp) h
theorem withT_small {l : List Tr} (hl : ∀ y ∈ l, Small y) (hn : l.length ≤ 4) : ∀ (ps : List Int) {x z : Tr}, Five x → withT x l ps = some z → Small z
  | [], x, z, _, h => by simp [withT] at h
  | s :: ps, .mk k n bs al t g ks, z, hx, h => by
    rw [withT_cons] at h
    cases hq : kidT (Tr.mk k n bs al t g ks).kids s with
    | none => rw [hq] at h; cases h
    | some q =>
      rw [hq] at h
      cases hx with
      | mk h1 h2 h3 h4 =>
        unfold withQ at h
        simp only [Tr.kids] at h
        by_cases hp : ps = []
        · rw [if_pos hp] at h
          injection h with h
          subst h
          refine .mk h1 h2 ?_ (merged_small ?_)
          · refine Nat.le_trans (merged_len _) ?_
            simp
            omega
          · intro x hx
            rcases List.mem_append.1 hx with hx | hx
            · rcases List.mem_append.1 hx with hx | hx
              · exact (h4 x (List.mem_of_mem_take hx)).small
              · exact hl x hx
            · exact (h4 x (List.mem_of_mem_drop hx)).small
        · rw [if_neg hp] at h
          cases hy : ks[q]? with
          | none => simp only [hy] at h; cases h
          | some y =>
            simp only [hy] at h
            cases hw : withT y l ps with
            | none => simp only [hw] at h; cases h
            | some v =>
              simp only [hw] at h
              injection h with h
              subst h
              refine .mk h1 h2 ?_ ?_
              · simp
                omega
              · intro x hx
                rcases List.mem_append.1 hx with hx | hx
                · rcases List.mem_append.1 hx with hx | hx
                  · exact (h4 x (List.mem_of_mem_take hx)).small
                  · rw [List.mem_singleton.1 hx]
                    exact withT_small hl hn ps (h4 y (List.mem_of_getElem? hy)) hw
                · exact (h4 x (List.mem_of_mem_drop hx)).small
/-- Two rows of the call's own, and nodes apart from both. -/
structure Duo (W w : World) (B : Nat) (e8 e7 : TypeId) (v8 v7 : Value) (m8 m7 : Nat) (O8 O7 : List Nd) : Prop where
  o8 : w.ownsRow W.heap.size e8 9 v8 m8 (O8.flatMap Nd.cells)
  o7 : w.ownsRow W.heap.size e7 9 v7 m7 (O7.flatMap Nd.cells)
  ne : ∀ g, v8.ownBlock = some g → v7.ownBlock = some g → False
  nd : ∀ x, x ∈ O8 ∨ x ∈ O7 → x.ok w ∧ x.out (fun b => b < B ∨ (W.heap.size ≤ b ∧ some b ≠ v8.ownBlock ∧ some b ≠ v7.ownBlock))
  k : Kept W w
section
variable {W w w' : World} {B m8 m7 : Nat} {e8 e7 : TypeId} {v8 v7 : Value} {O8 O7 : List Nd}
theorem Duo.start (h : Kept W w) : Duo W w B e8 e7 (.slice none 0 0) (.slice none 0 0) 0 0 [] [] :=
  ⟨World.ownsRow_nil _ _ _ _, World.ownsRow_nil _ _ _ _, (fun g h => by cases h), (by simp), h⟩
theorem Duo.kept (h : Duo W w B e8 e7 v8 v7 m8 m7 O8 O7) (k : Kept w w') : Duo W w' B e8 e7 v8 v7 m8 m7 O8 O7 :=
  ⟨own_kept h.o8 k, own_kept h.o7 k, h.ne, fun x hx => ⟨(h.nd x hx).1.kept k, (h.nd x hx).2⟩, h.k.trans k⟩
theorem Duo.swap (h : Duo W w B e8 e7 v8 v7 m8 m7 O8 O7) : Duo W w B e7 e8 v7 v8 m7 m8 O7 O8 :=
  ⟨h.o7, h.o8, fun g h1 h2 => h.ne g h2 h1, fun x hx => ⟨(h.nd x hx.symm).1, (h.nd x hx.symm).2.mono (fun _ hb => hb.imp id (fun h => ⟨h.1, h.2.2, h.2.1⟩))⟩, h.k⟩
theorem Nd.out.and {p q : Nat → Prop} {x : Nd} (h : x.out p) : x.out q → x.out (fun b => p b ∧ q b) := by
  induction h with
  | mk a1 a2 a3 _ ih =>
    intro h2
    obtain ⟨b1, b2, b3, b4⟩ := h2.parts
    exact .mk (fun b o hn e => ⟨a1 b o hn e, b1 b o hn e⟩) (fun b o hn e => ⟨a2 b o hn e, b2 b o hn e⟩) (fun b o hn e => ⟨a3 b o hn e, b3 b o hn e⟩) (fun x hx => ih x hx (b4 x hx))
theorem Duo.push {wc : World} {v' : Value} {y : Nd} {o : Obj} (h : Duo W w B e8 e7 v8 v7 m8 m7 O8 O7) (hB : B ≤ W.heap.size) (hy : y.ok w) (hyo : y.out (fun b => b < B ∨ wc.heap.size ≤ b)) (hwc : Duo W wc B e8 e7 v8 v7 m8 m7 O8 O7)
    (hown : w'.ownsRow W.heap.size e8 9 v' (m8 + 1) (O8.flatMap Nd.cells ++ y.cells)) (hk : Kept W w') (hg : (w.alloc o).grownBy w' v8.ownBlock) (hv : v'.ownBlock = v8.ownBlock ∨ v'.ownBlock = some (w.heap.size + 1)) :
    Duo W w' B e8 e7 v' v7 (m8 + 1) m7 (O8 ++ [y]) O7 := by
  have l8 : ∀ g, v8.ownBlock = some g → W.heap.size ≤ g ∧ g < wc.heap.size := fun g e => hwc.o8.lt g e
  have l7 : ∀ g, v7.ownBlock = some g → W.heap.size ≤ g ∧ g < wc.heap.size := fun g e => hwc.o7.lt g e
  have l7' : ∀ g, v7.ownBlock = some g → g < w.heap.size := fun g e => (h.o7.lt g e).2
  have hWc := hwc.k.size
  have hn : ∀ x, x ∈ O8 ++ [y] ∨ x ∈ O7 → x.ok w ∧ x.out (fun b => b < w.heap.size ∧ (b < B ∨ (W.heap.size ≤ b ∧ some b ≠ v8.ownBlock ∧ some b ≠ v7.ownBlock))) := by
    intro x hx
    have hx2 : (x ∈ O8 ∨ x ∈ O7) ∨ x = y := by
      rcases hx with hx | hx
      · rcases List.mem_append.1 hx with hx | hx
        · exact .inl (.inl hx)
        · exact .inr (List.mem_singleton.1 hx)
      · exact .inl (.inr hx)
    rcases hx2 with hx | rfl
    · exact ⟨(h.nd x hx).1, (h.nd x hx).1.lt.and (h.nd x hx).2⟩
    · refine ⟨hy, hy.lt.and (hyo.mono fun b hb => ?_)⟩
      rcases hb with hb | hb
      · exact .inl hb
      · refine .inr ⟨by omega, fun e => ?_, fun e => ?_⟩
        · have := (l8 b e.symm).2
          omega
        · have := (l7 b e.symm).2
          omega
  refine ⟨by rw [List.flatMap_append]; simpa using hown, (h.o7.alloc o).kept hg ?_, ?_, fun x hx => ?_, hk⟩
  · cases e : v7.ownBlock with
    | none => exact .inl rfl
    | some g => exact .inr (fun e2 => h.ne g e2.symm e)
  · intro g e1 e2
    rcases hv with hv | hv
    · exact h.ne g (hv ▸ e1) e2
    · rw [hv] at e1
      injection e1 with e1
      have := l7' g e2
      omega
  · obtain ⟨h1, h2⟩ := hn x hx
    refine ⟨(h1.kept ((Kept.refl w).alloc o)).grown hg (h2.mono fun b hb e => ?_), h2.mono fun b hb => ?_⟩
    · rcases hb.2 with hb | hb
      · have := (l8 b e.symm).1
        omega
      · exact hb.2.1 e
    · rcases hb.2 with hb2 | hb2
      · exact .inl hb2
      · refine .inr ⟨hb2.1, ?_, hb2.2.2⟩
        rcases hv with hv | hv
        · rw [hv]
          exact hb2.2.1
        · rw [hv]
          intro e
          injection e with e
          omega
end
section
variable {H : Type} {enc : TypeId × Value → H} {w : World} {base : Nat} {spare : Nat → Bool} {held : Bool}
set_option maxRecDepth 100000 in
theorem open_nds_arg {b : Nat} {r : Reach} {b0 : Nat} {v : Value} {d : DataW H} {ps : List MemPlace} (hval : Value.okWide Try.prog w r b0 26 v) (hd : DataW.Trod enc Try.prog w base spare held 26 v d ps) :
    ∃ (A : Option Addr) (n c : Nat) (L : List Nd), v = .slice A n c ∧ Nds w A n c L ∧ ((∀ m ∈ d.weights Try.prog 26, m ≤ b) → ∀ x ∈ L, Txts b x.tr) := by
  obtain ⟨a0, len, cap, rfl⟩ := okWide_slice Try.underlying26 hval
  obtain ⟨fuel, hf⟩ := hd
  obtain ⟨A, n, c, rows, hcs, hl, hs, hr⟩ := open_rows_w (s := 9) Try.underlying26 (by kernel_rfl) (by omega) hf
  simp [Value.cells] at hcs
  obtain ⟨rfl, rfl, rfl⟩ := hcs
  obtain ⟨L, hLm, hLp⟩ := exists_map (f := Nd.cells) (p := fun x => x.ok w ∧ ((∀ m ∈ d.weights Try.prog 26, m ≤ b) → Txts b x.tr)) (rows := rows) (fun r hr' => by
    obtain ⟨h1, k, y, _, hy, hw⟩ := hr r hr'
    obtain ⟨x, hx1, hx2, hx3⟩ := open_nd (b := b) k r y hy h1
    exact ⟨x, hx1, hx2, fun hm => hx3 (fun m hm' => hm m (hw m hm'))⟩)
  rw [flat_of hLm] at hs
  exact ⟨_, _, _, L, rfl, ⟨hs, fun x hx => (hLp x hx).1⟩, fun hm x hx => (hLp x hx).2 hm⟩
end
end Go.Proofs.Ytnlncamiaddhfaa
