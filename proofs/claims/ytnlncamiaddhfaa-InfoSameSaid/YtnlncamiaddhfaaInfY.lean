/- The example of the chapter: walked. -/
import Derived.Test.YtnlncamiaddhfaaInfX
namespace Go.Proofs.Ytnlncamiaddhfaa
open Go.RowKit
attribute [local go_sem ↓] Go.wp_at_zero Go.wp_at_succ

theorem text_any (s : ByteArray) (w : World) : Calls Try.prog 27 #[.string s] w fun e w' => e = .returned (.agg #[.int .i64 3, .string ⟨#[]⟩, .string ⟨#[]⟩, .string ⟨#[]⟩, .slice none 0 0, .slice none 0 0, .string s, .string ⟨#[]⟩, .slice none 0 0]) ∧ Kept w w' := by
  go_enter Try.func27, Try.ntmps27
  go_wp2_with fail
  exact bodyPost_ret (v := .agg #[.int .i64 3, .string ⟨#[]⟩, .string ⟨#[]⟩, .string ⟨#[]⟩, .slice none 0 0, .slice none 0 0, .string s, .string ⟨#[]⟩, .slice none 0 0]) (by simp [results, Try.results27, go_sem]) rfl ⟨rfl, by repeat (first | (with_reducible exact Kept.refl _) | (with_reducible refine Kept.setCell ?_ (by simp) _) | (with_reducible refine Kept.alloc ?_ _))⟩
def bA : ByteArray := ⟨#[97]⟩
def bB : ByteArray := ⟨#[98]⟩
def bAB : ByteArray := ⟨#[97, 98]⟩
def elN : Nd := .mk 2 .none_ none 0 0 [] none 0 0 [] ⟨#[]⟩ ⟨#[]⟩ none 0 0 []
def exN (g : Nat) : Nd := .mk 1 .none_ none 0 0 [] none 0 0 [] ⟨#[]⟩ ⟨#[]⟩ (some ⟨g, 0, none⟩) 3 3 [Nd.text bA, elN, Nd.text bB]
theorem ex_with (g : Nat) : withT (exN g).tr [] [0] = some (setKids (exN g).tr [Tr.text bAB]) := by
  have hk : (exN g).tr.kids = [Tr.text bA, elN.tr, Tr.text bB] := by
    rw [exN, Nd.tr_mk]
    simp [Tr.kids, Nd.text_tr]
  have he : elN.tr.kind = 2 := by rw [Nd.kind_tr]; rfl
  have hq : kidT (exN g).tr.kids 0 = some 1 := by
    rw [hk]
    unfold kidT
    rw [if_neg (by omega), els, if_neg (by decide), els, if_pos he, els, if_neg (by decide), els]
    rfl
  rw [withT_cons, hq, withQ_one, hk]
  have h1 : eqS bA ⟨#[]⟩ = false := by
    rw [Bool.eq_false_iff]
    intro h
    have := congrArg ByteArray.size (eqS_iff.1 h)
    cases this
  have h2 : eqS bB ⟨#[]⟩ = false := by
    rw [Bool.eq_false_iff]
    intro h
    have := congrArg ByteArray.size (eqS_iff.1 h)
    cases this
  have hm : mergedT [Tr.text bA, Tr.text bB] = [Tr.text bAB] := by
    show mergeStep (mergeStep [] (Tr.text bA)) (Tr.text bB) = _
    rw [step_put (out := []) (n := Tr.text bA) (.inr ⟨h1, by simp⟩), step_join (out := [] ++ [Tr.text bA]) (n := Tr.text bB) (m := Tr.text bA) rfl h2 rfl rfl]
    rfl
  show some (setKids _ (mergedT [Tr.text bA, Tr.text bB])) = _
  rw [hm]
theorem ex_small (g : Nat) : Small (exN g).tr ∧ Txts 140737488355328 (exN g).tr := by
  rw [exN, Nd.tr_mk]
  have hs : ∀ x ∈ [Nd.text bA, elN, Nd.text bB].map Nd.tr, Small x ∧ Txts 140737488355328 x := by
    intro x hx
    simp at hx
    rcases hx with rfl | rfl | rfl
    · rw [Nd.text_tr]; exact ⟨.mk (by simp) (by simp) (by simp) (by simp), .mk (by decide) (by simp)⟩
    · rw [elN, Nd.tr_mk]; exact ⟨.mk (by simp) (by simp) (by simp) (by simp), .mk (by decide) (by simp)⟩
    · rw [Nd.text_tr]; exact ⟨.mk (by simp) (by simp) (by simp) (by simp), .mk (by decide) (by simp)⟩
  exact ⟨.mk (by simp) (by simp) (by simp) (fun x hx => (hs x hx).1), .mk (by decide) (fun x hx => (hs x hx).2)⟩
set_option maxHeartbeats 4000000 in
theorem infAwake_any (w : World) : Calls Try.prog 15 #[] w fun e w' => e = .returned (.bool true) ∧ Kept w w' := by
  go_enter Try.func15, Try.ntmps15
  go_wp2_with fail
  refine (text_any _ _).mono ?_
  rintro e w1 ⟨rfl, k1⟩
  go_wp2_with fail
  refine (text_any _ _).mono ?_
  rintro e w2 ⟨rfl, k2⟩
  have k12 := k1.trans k2
  have hkids := Sl.litg (w := w2) (t := 36) (g := w2.heap.size) (xs := [Nd.text bA, elN, Nd.text bB].flatMap Nd.cells) (s := 9) (n := 3) rfl rfl (by omega)
  have k3 := (Kept.refl w2).alloc (.cells ([Nd.text bA, elN, Nd.text bB].flatMap Nd.cells).toArray 36)
  have hx : (exN w2.heap.size).ok (w2.alloc (.cells ([Nd.text bA, elN, Nd.text bB].flatMap Nd.cells).toArray 36)) := .mk Sl.nil_ Sl.nil_ hkids (by
    intro x hx
    simp at hx
    rcases hx with rfl | rfl | rfl
    · exact Nd.text_ok _ _
    · exact .mk Sl.nil_ Sl.nil_ Sl.nil_ (by simp)
    · exact Nd.text_ok _ _)
  have hp := Sl.litg (w := w2.alloc (.cells ([Nd.text bA, elN, Nd.text bB].flatMap Nd.cells).toArray 36)) (t := 3) (g := w2.heap.size + 1) (xs := [(0 : Int)].map (Value.int .i64)) (s := 1) (n := 1) (by simp) rfl (by omega)
  have HX := Lib.hid hx
  have HP := Lib.hid hp
  clear hx hkids hp
  go_wp2_with fail
  refine (with_any (exN w2.heap.size) none 0 0 [] _ 1 1 [0] _ _ (HX.out.kept ((Kept.refl _).alloc _)).lt (by simp) (Nat.le_refl _) (HX.out.kept ((Kept.refl _).alloc _)) (ex_small _).1 (ex_small _).2 ⟨Sl.nil_, by simp⟩ (by omega) (by simp) HP.out (by simp)).mono ?_
  rintro e w3 ⟨y, b, rfl, yok, hy, k4, _⟩
  have hy2 : b = true ∧ setKids (exN w2.heap.size).tr [Tr.text bAB] = y.tr := by
    rcases hy with ⟨ho, hb⟩ | ⟨ho, _⟩
    · have h1 : withT (exN w2.heap.size).tr [] [0] = some y.tr := ho
      rw [ex_with] at h1
      injection h1 with h1
      exact ⟨hb, h1⟩
    · have h1 : withT (exN w2.heap.size).tr [] [0] = none := ho
      rw [ex_with] at h1
      cases h1
  obtain ⟨rfl, hys⟩ := hy2
  have K4 := (k12.trans (k3.alloc _)).trans k4
  obtain ⟨yk, yn, ybA, ybn, ybc, ybs, yaA, yan, yac, yal, yt, yg, ykA, ykn, ykc, yks⟩ := y
  obtain ⟨_, _, hks, _⟩ := yok.parts
  rw [exN, Nd.tr_mk, Nd.tr_mk] at hys
  have hl : [Tr.text bAB] = yks.map Nd.tr := by
    injection hys
  have hlen := hks.llen Nd.cells_len (by omega)
  have h1 : ykn = 1 := by
    have := congrArg List.length hl
    rw [List.length_map, hlen] at this
    simpa using this.symm
  subst h1
  obtain ⟨zb, zo, zk, zn, zbA, zbn, zbc, zbs, zaA, zan, zac, zal, zt, zg, zkA, zkn, zkc, zks, rfl, hz, z0, z1, z2, z3, z4, z5, z6, z7, z8, hzb⟩ := cells9 hks (k := 0) (by omega)
  have hzt : zt = bAB := by
    have h1 := map_get (f := Nd.tr) hz
    rw [← hl] at h1
    have h2 : Tr.text bAB = (Nd.mk zk zn zbA zbn zbc zbs zaA zan zac zal zt zg zkA zkn zkc zks).tr := by simpa using h1
    have h3 := congrArg Tr.txt h2
    rw [Nd.txt_tr] at h3
    exact h3.symm
  subst hzt
  rw [Nd.val_mk]
  rw [show bAB = ⟨#[97, 98]⟩ from rfl] at z6
  have z6' : w3.cell? ⟨zb, zo + 6, none⟩ = some (.string ⟨#[97, 98]⟩) := by simpa using z6
  clear hks hl hys hy z0 z1 z2 z3 z4 z5 z6 z7 z8 hz hlen HX HP k3 k4 k12 k1 k2
  have K5 := K4.alloc (.cells (ndc yk yn ybA ybn ybc yaA yan yac yt yg (some ⟨zb, zo, none⟩) 1 ykc) 36)
  go_wp2_with fail
  go_ret
  exact ⟨rfl, K5⟩
end Go.Proofs.Ytnlncamiaddhfaa
