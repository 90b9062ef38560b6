/- The scopes that lists of bindings make, the program's and the document's: walked. -/
import Derived.Test.YtdlgjbijnhfbhaaScoM
namespace Go.Proofs.Ytdlgjbijnhfbhaa
open Go.RowKit
attribute [local go_sem ↓] Go.wp_at_zero Go.wp_at_succ

/-- A list of bindings in memory. -/
structure Rw where
  A : Option Addr
  n : Nat
  c : Nat
  l : List Bd
def Rw.cell (r : Rw) : Value := .slice r.A r.n r.c
def Rw.ok (r : Rw) (w : World) : Prop := Sl w 2 r.A r.n r.c (r.l.flatMap Bd.cells)
theorem flatL_cons (l : List Bd) (ls : List (List Bd)) : flatL (l :: ls) = flatL ls ++ l := by
  unfold flatL
  rw [List.reverse_cons, List.flatten_append, List.flatten_cons, List.flatten_nil, List.append_nil]
/-- What stands while the lists are worked on. -/
def MadeAt (k : Nat) (w : World) (v u : Value) (wr : World) : Prop :=
  ∃ ls B m d W, u = .slice B m d ∧ W.length = m ∧ m ≤ 2 + 6 * k ∧ ScopeAt wr v ls ∧ ls ≠ [] ∧ Sl wr 2 B m d (W.flatMap Bd.cells) ∧ W = flatL ls ∧ (∀ l ∈ ls, Uniq l) ∧ Kept w wr
def MadeOf (w : World) (e : Ending) (w' : World) : Prop :=
  ∃ v u, e = .returned (.tuple #[v, u, .bool true]) ∧ MadeAt 6 w v u w'
theorem MadeAt.mono {k k' : Nat} {w wr : World} {v u : Value} (hk : k ≤ k') : MadeAt k w v u wr → MadeAt k' w v u wr := by
  rintro ⟨ls, B, m, d, W, h1, h2, h3, h4⟩
  exact ⟨ls, B, m, d, W, h1, h2, by omega, h4⟩
theorem MadeAt.kept {k : Nat} {w wr w2 : World} {v u : Value} (h : MadeAt k w v u wr) (k2 : Kept wr w2) : MadeAt k w v u w2 := by
  obtain ⟨ls, B, m, d, W, h1, h2, h3, h4, h5, h6, h7, h8, h9⟩ := h
  exact ⟨ls, B, m, d, W, h1, h2, h3, h4.kept k2, h5, h6.kept k2, h7, h8, h9.trans k2⟩
set_option maxRecDepth 100000 in
set_option maxHeartbeats 8000000 in
theorem made_any (A : Option Addr) (n c : Nat) (L : List Rw) (w : World) (h : Sl w 1 A n c (L.map Rw.cell)) (hok : ∀ r ∈ L, r.ok w) :
    Calls Try.prog 8 #[.slice A n c] w fun e w' => MadeOf w e w' := by
  have hcap := h.cap
  have hmax := h.max
  have HOK := Lib.hid hok
  clear hok
  go_enter Try.func8, Try.ntmps8
  go_wp2_with fail
  refine (new_any _).mono ?_
  rintro e w1 ⟨g, rfl, hs1, k1⟩
  go_wp2_with fail
  refine (rnew_any _).mono ?_
  rintro e w2 ⟨B, d, rfl, hr2, k2⟩
  have hs2 := hs1.kept k2
  have hM : MadeAt 0 w (.pointer (some ⟨g, 0, none⟩)) (.slice B 2 d) w2 := ⟨[root], B, 2, d, root, rfl, rfl, by omega, hs2, by simp, hr2, rfl, by intro l hl; simp at hl; subst hl; exact root_uniq, k1.trans k2⟩
  clear hs1 hs2 hr2
  go_wp2_with fail
  go_loopw [5, 6, 18] (fun v u i wr => ∃ k : Nat, k ≤ n ∧ k ≤ 6 ∧ i = .int .i64 k ∧ MadeAt k w v u wr) (fun _ _ i _ => n - (intOf i).toNat)
  case atStart => exact ⟨0, Nat.zero_le _, Nat.zero_le _, rfl, hM⟩
  case round =>
    clear hM
    obtain ⟨k, hk, hk6, rfl, hM⟩ := hrel
    by_cases hlt : k < n
    · obtain ⟨ls, C, m, d', W, rfl, hWl, hm, hsc, hne, hsl, hfl, hun, hkept⟩ := hM
      obtain ⟨b, o, x, rfl, hx, x0, hb⟩ := (h.kept hkept).oneb hlt
      have hxo := (HOK.out x (List.mem_of_getElem? hx)).kept hkept
      obtain ⟨XA, xn, xc, xl⟩ := x
      have hxs : Sl wr 2 XA xn xc (xl.flatMap Bd.cells) := hxo
      have x0' : wr.cell? ⟨b, o + k, none⟩ = some (.slice XA xn xc) := x0
      clear x0 hxo hx
      have HF := Lib.hid (show W.length = m ∧ W = flatL ls ∧ (∀ l ∈ ls, Uniq l) ∧ ls ≠ [] from ⟨hWl, hfl, hun, hne⟩)
      clear hWl hfl hun hne
      by_cases h6 : k < 6
      · have l1 : ¬ (6 : Int) ≤ k := by omega
        have l2 : ¬ (6 : Nat) ≤ k := by omega
        go_wp2_with fail
        refine (ours_any XA xn xc xl _ hxs).mono ?_
        rintro e w3 ⟨m', VA, VC, hm', rfl, hV, k3⟩
        have hm6 : m' ≤ 6 := by rw [hm']; exact Nat.min_le_right _ _
        have hmn : m' ≤ xn := by rw [hm']; exact Nat.min_le_left _ _
        have hm7 : m' ≤ 1000000 := Nat.le_trans hm6 (by decide)
        clear hm'
        go_wp2_with fail
        refine (push_any _ ls VA m' VC (xl.take m') _ (hsc.kept k3) hV hm7).mono ?_
        rintro e w4 ⟨k4, hp⟩
        have hxc := hxs.cap
        have hcut := run_cut_h appT_rbds XA xn xc m' (by omega)
        have p1 : (0 : Int) ≤ m' := by omega
        have p2 : (m' : Int) ≤ xc := by omega
        have hto := ((hxs.kept k3).kept k4).to (m := m') (by omega)
        rw [flat_take (s := 2) (enc := Bd.cells) (fun _ => rfl)] at hto
        have HTO := Lib.hid hto
        have HCF := Lib.hid (codeF_uniq (xl.take m') [])
        have hcl : (xl.take m').length = m' := hto.llen (enc := Bd.cells) (fun _ => rfl) (by omega)
        have HCL := Lib.hid hcl
        clear hto hcl hxs hV
        obtain ⟨z, hz⟩ : ∃ z, codeF [] (xl.take m') = z := ⟨_, rfl⟩
        have hrp := rpush_any C m d' W XA m' xc (xl.take m') _ (((hsl.kept k3).kept k4)) HTO.out hm7 (by omega)
        unfold RPushedOf at hrp
        rw [hz] at hp hrp HCF
        have HRP := Lib.hid hrp
        clear hrp hz
        rcases hp with ⟨h0, rfl⟩ | ⟨h0, g4, rfl, hs4⟩
        · have d0 : (z == 0) = false := by simpa using h0
          have d1 : (z != 0) = true := by simpa using h0
          go_wp2_with fail
          refine HRP.out.mono ?_
          rintro e w5 ⟨k5, hq⟩
          rcases hq with ⟨_, rfl⟩ | ⟨h1, _⟩
          rotate_left
          · exact absurd h1 h0
          go_wp2_with fail
          go_roundw
          case rel => exact ⟨k + 1, hlt, h6, by go_num, ls, C, m, d', W, rfl, HF.out.1, by omega, ((hsc.kept k3).kept k4).kept k5, HF.out.2.2.2, ((hsl.kept k3).kept k4).kept k5, HF.out.2.1, HF.out.2.2.1, ((hkept.trans k3).trans k4).trans k5⟩
          case measure =>
            simp [intOf]
            omega
        · subst h0
          go_wp2_with fail
          refine HRP.out.mono ?_
          rintro e w5 ⟨k5, hq⟩
          rcases hq with ⟨h1, _⟩ | ⟨h1, A5, c5, rfl, hs5⟩
          · exact absurd rfl h1
          have hlen : (W ++ xl.take m').length = m + m' := by rw [List.length_append, HF.out.1, HCL.out]
          rw [hlen] at hs5 ⊢
          have HE := Lib.hid (show eff ls = ls by
            have := HF.out.2.2.2
            cases ls with
            | nil => exact absurd rfl this
            | cons a b => rfl)
          rw [HE.out] at hs4
          clear hlen
          go_wp2_with fail
          go_roundw
          case rel =>
            refine ⟨k + 1, hlt, h6, by go_num, xl.take m' :: ls, A5, m + m', c5, W ++ xl.take m', rfl, by rw [List.length_append, HF.out.1, HCL.out], by omega, hs4.kept k5, by simp, hs5, by rw [flatL_cons, ← HF.out.2.1], ?_, ((hkept.trans k3).trans k4).trans k5⟩
            intro l hl
            rcases List.mem_cons.1 hl with rfl | hl
            · exact (HCF.out (by trivial)).1
            · exact HF.out.2.2.1 l hl
          case measure =>
            simp [intOf]
            omega
      · obtain rfl : k = 6 := by omega
        go_wp2_with fail
        go_ret3
        exact ⟨_, _, rfl, ls, C, m, d', W, rfl, HF.out.1, hm, hsc, HF.out.2.2.2, hsl, HF.out.2.1, HF.out.2.2.1, hkept⟩
    · obtain rfl : k = n := by omega
      go_wp2_with fail
      go_ret3
      exact ⟨_, _, rfl, hM.mono hk6⟩
end Go.Proofs.Ytdlgjbijnhfbhaa
