/- The closure in info.Alike, slices.IndexFunc and slices.ContainsFunc with it: walked. -/
import Derived.Test.YtnlncamiaddhfaaInfAb
namespace Go.Proofs.Ytnlncamiaddhfaa
open Go.RowKit
attribute [local go_sem ↓] Go.wp_at_zero Go.wp_at_succ

/-- Two nodes that the closure holds, their attributes. -/
structure Held (w : World) (g1 g2 : Nat) (A : Option Addr) (n c : Nat) (al : List Att) (A' : Option Addr) (n' c' : Nat) (al' : List Att) : Prop where
  c1 : w.cell? ⟨g1, 5, none⟩ = some (.slice A n c)
  c2 : w.cell? ⟨g2, 5, none⟩ = some (.slice A' n' c')
  s1 : Sl w 5 A n c (al.flatMap Att.cells)
  s2 : Sl w 5 A' n' c' (al'.flatMap Att.cells)
theorem Held.kept {w w' : World} {g1 g2 n c n' c' : Nat} {A A' : Option Addr} {al al' : List Att} (h : Held w g1 g2 A n c al A' n' c' al') (k : Kept w w') : Held w' g1 g2 A n c al A' n' c' al' :=
  ⟨k.cell h.c1, k.cell h.c2, h.s1.kept k, h.s2.kept k⟩
set_option maxHeartbeats 4000000 in
theorem other_any (w : World) (g1 g2 n c n' c' : Nat) (A A' : Option Addr) (al al' : List Att) (h : Held w g1 g2 A n c al A' n' c' al') (hn : n ≤ 1000000) (hn' : n' ≤ 1000000) (x : Att) :
    Calls Try.prog 34 #[x.val, .pointer (some ⟨g1, 0, none⟩), .pointer (some ⟨g2, 0, none⟩)] w fun e w' => e = .returned (.bool (oftenN al x != oftenN al' x)) ∧ Kept w w' := by
  show Calls Try.prog 34 #[.agg #[.string x.n.u, .string x.n.l, .string x.n.p, .string x.v, .bool x.h], .pointer (some ⟨g1, 0, none⟩), .pointer (some ⟨g2, 0, none⟩)] w _
  obtain ⟨F, hF⟩ : ∃ F, (oftenN al x != oftenN al' x) = F := ⟨_, rfl⟩
  have HF := Lib.hid hF
  rw [hF]
  have B0 := Blk.new w #[.string x.n.u, .string x.n.l, .string x.n.p, .string x.v, .bool x.h] 65
  have k0 : Kept w (w.alloc (.cells #[.string x.n.u, .string x.n.l, .string x.n.p, .string x.v, .bool x.h] 65)) := (Kept.refl w).alloc _
  go_enter Try.func34, Try.ntmps34
  go_upto_region 1 with fail
  change Code.wp _ _ _ _ (w.alloc (.cells #[.string x.n.u, .string x.n.l, .string x.n.p, .string x.v, .bool x.h] 65))
  generalize w.alloc (.cells #[.string x.n.u, .string x.n.l, .string x.n.p, .string x.v, .bool x.h] 65) = w0 at B0 k0 ⊢
  obtain ⟨g0, hg0⟩ : ∃ g, w.heap.size = g := ⟨_, rfl⟩
  rw [hg0] at B0 ⊢
  clear hg0
  have h0 := h.kept k0
  have bc := B0.cell
  have q0 : ∀ p : KeptFrom w0, p.x.cell? ⟨g0, 0, none⟩ = some (.string x.n.u) := fun p => p.k.cell (bc 0)
  have q1 : ∀ p : KeptFrom w0, p.x.cell? ⟨g0, 1, none⟩ = some (.string x.n.l) := fun p => p.k.cell (bc 1)
  have q2 : ∀ p : KeptFrom w0, p.x.cell? ⟨g0, 2, none⟩ = some (.string x.n.p) := fun p => p.k.cell (bc 2)
  have q3 : ∀ p : KeptFrom w0, p.x.cell? ⟨g0, 3, none⟩ = some (.string x.v) := fun p => p.k.cell (bc 3)
  have q4 : ∀ p : KeptFrom w0, p.x.cell? ⟨g0, 4, none⟩ = some (.bool x.h) := fun p => p.k.cell (bc 4)
  have q5 : ∀ p : KeptFrom w0, p.x.cell? ⟨g1, 5, none⟩ = some (.slice A n c) := fun p => p.k.cell h0.c1
  have q6 : ∀ p : KeptFrom w0, p.x.cell? ⟨g2, 5, none⟩ = some (.slice A' n' c') := fun p => p.k.cell h0.c2
  have H1 : Hid (∀ p : KeptFrom w0, Calls Try.prog 35 #[.slice A n c, .agg #[.string x.n.u, .string x.n.l, .string x.n.p, .string x.v, .bool x.h]] p.x fun e w' => e = .returned (.int .i64 ((oftenN al x : Nat) : Int)) ∧ Kept p.x w') := fun p => often_any A n c al x p.x (h0.s1.kept p.k) hn
  have H2 : Hid (∀ p : KeptFrom w0, Calls Try.prog 35 #[.slice A' n' c', .agg #[.string x.n.u, .string x.n.l, .string x.n.p, .string x.v, .bool x.h]] p.x fun e w' => e = .returned (.int .i64 ((oftenN al' x : Nat) : Int)) ∧ Kept p.x w') := fun p => often_any A' n' c' al' x p.x (h0.s2.kept p.k) hn'
  generalize oftenN al x = m1 at H1 HF hF
  generalize oftenN al' x = m2 at H2 HF hF
  have e1 : ((m1 : Int) != (m2 : Int)) = F := by
    rw [← hF, Bool.eq_iff_iff]
    simp
    omega
  have HE := Lib.hid e1
  clear hF bc e1
  refine wp_region_kept (by kernel_rfl) (by kernel_rfl) ?_
  repeat (quiet_step (first
    | (go_at_call 35; first | with_reducible exact Calls.kept_of (H1.out _) | with_reducible exact Calls.kept_of (H2.out _))))
  refine wpQuiet_nil ?_
  rintro _ ⟨⟨w5, k5⟩, rfl⟩
  go_wp2_with fail
  go_ret
  exact ⟨ret_bool HE.out, k0.trans k5⟩
theorem any_take {α : Type} {l : List α} {p : α → Bool} {j : Nat} {x : α} (h : l[j]? = some x) : (l.take (j + 1)).any p = ((l.take j).any p || p x) := by
  rw [List.take_add_one, h, Option.toList_some, List.any_append]
  simp
theorem alike_enters (args : Array Value) (w : World) : (callFunc 34 args).run Try.prog w = .ok (.enter 34 args) w := fn_enters Try.func34 (by kernel_rfl) (by kernel_rfl) args w
set_option maxHeartbeats 4000000 in
theorem indexF_any (w : World) (g1 g2 n c n' c' : Nat) (A A' : Option Addr) (al al' : List Att) (h : Held w g1 g2 A n c al A' n' c' al') (hn : n ≤ 1000000) (hn' : n' ≤ 1000000) :
    Calls Try.prog 40 #[.slice A n c, .func (.func 34) #[] #[.pointer (some ⟨g1, 0, none⟩), .pointer (some ⟨g2, 0, none⟩)]] w fun e w' => ∃ r : Int, e = .returned (.int .i64 r) ∧ Hid (decide (0 ≤ r) = al.any (fun x => oftenN al x != oftenN al' x)) ∧ Kept w w' := by
  have hl := h.s1.llen (enc := Att.cells) (fun _ => rfl) (by omega)
  have HL := Lib.hid hl
  have hE := alike_enters
  have hcap := h.s1.cap
  have hmax := h.s1.max
  have HH := Lib.hid h
  have hs := h.s1
  clear hl h
  go_enter Try.func40, Try.ntmps40
  go_wp2_with fail
  go_loopw [8] (fun i wr => ∃ j : Nat, j ≤ n ∧ i = .int .i64 j ∧ Kept w wr ∧ Hid ((al.take j).any (fun x => oftenN al x != oftenN al' x) = false)) (fun i _ => n - (intOf i).toNat)
  case atStart => exact ⟨0, Nat.zero_le _, rfl, Kept.refl _, rfl⟩
  case round =>
    obtain ⟨j, hj, rfl, hkept, HI⟩ := hrel
    by_cases hlt : j < n
    · obtain ⟨b, o, x, rfl, hx, hxc, hxb⟩ := (hs.kept hkept).elemb (enc := Att.cells) (fun _ => rfl) (by omega) hlt
      have x0 : wr.cell? ⟨b, o + j * 5, none⟩ = some (.string x.n.u) := hxc 0 _ rfl
      have x1 : wr.cell? ⟨b, o + j * 5 + 1, none⟩ = some (.string x.n.l) := hxc 1 _ rfl
      have x2 : wr.cell? ⟨b, o + j * 5 + 2, none⟩ = some (.string x.n.p) := hxc 2 _ rfl
      have x3 : wr.cell? ⟨b, o + j * 5 + 3, none⟩ = some (.string x.v) := hxc 3 _ rfl
      have x4 : wr.cell? ⟨b, o + j * 5 + 4, none⟩ = some (.bool x.h) := hxc 4 _ rfl
      have HC : Hid (Calls Try.prog 34 #[.agg #[.string x.n.u, .string x.n.l, .string x.n.p, .string x.v, .bool x.h], .pointer (some ⟨g1, 0, none⟩), .pointer (some ⟨g2, 0, none⟩)] wr fun e w' => e = .returned (.bool (oftenN al x != oftenN al' x)) ∧ Kept wr w') := other_any wr g1 g2 n c n' c' _ A' al al' (HH.out.kept hkept) hn hn' x
      have HS := Lib.hid (any_take (p := fun x => oftenN al x != oftenN al' x) hx)
      have hxm := List.mem_of_getElem? hx
      have HXM := Lib.hid hxm
      obtain ⟨F, hF⟩ : ∃ F, (oftenN al x != oftenN al' x) = F := ⟨_, rfl⟩
      rw [hF] at HC
      have HFV := Lib.hid hF
      have l1 : (j : Int) < n := by omega
      clear hxc hx hxm hF
      go_wp2_with fail
      refine HC.out.mono ?_
      rintro e w2 ⟨rfl, k2⟩
      cases F
      · go_wp2_with fail
        go_roundw
        case rel => exact ⟨j + 1, hlt, by go_num, hkept.trans k2, by unfold Hid; rw [HS.out, HI.out]; exact HFV.out⟩
        case measure =>
          simp [intOf]
          omega
      · have HA : Hid (decide (0 ≤ (j : Int)) = al.any (fun x => oftenN al x != oftenN al' x)) := by
          unfold Hid
          rw [List.any_eq_true.2 ⟨x, HXM.out, HFV.out⟩]
          simp
        go_wp2_with fail
        go_ret
        exact ⟨_, rfl, HA, hkept.trans k2⟩
    · obtain rfl : j = n := by omega
      have HA : Hid (decide (0 ≤ (-1 : Int)) = al.any (fun x => oftenN al x != oftenN al' x)) := by
        have h1 := HI.out
        rw [List.take_of_length_le (by rw [HL.out]; exact Nat.le_refl _)] at h1
        unfold Hid
        rw [h1]
        rfl
      go_wp2_with fail
      go_ret
      exact ⟨_, rfl, HA, hkept⟩
theorem containsF_any (w : World) (g1 g2 n c n' c' : Nat) (A A' : Option Addr) (al al' : List Att) (h : Held w g1 g2 A n c al A' n' c' al') (hn : n ≤ 1000000) (hn' : n' ≤ 1000000) :
    Calls Try.prog 36 #[.slice A n c, .func (.func 34) #[] #[.pointer (some ⟨g1, 0, none⟩), .pointer (some ⟨g2, 0, none⟩)]] w fun e w' => e = .returned (.bool (al.any (fun x => oftenN al x != oftenN al' x))) ∧ Kept w w' := by
  have HI := Lib.hid (indexF_any w g1 g2 n c n' c' A A' al al' h hn hn')
  clear h
  obtain ⟨F, hF⟩ : ∃ F, al.any (fun x => oftenN al x != oftenN al' x) = F := ⟨_, rfl⟩
  rw [hF] at HI ⊢
  clear hF
  go_enter Try.func36, Try.ntmps36
  go_wp2_with fail
  refine HI.out.mono ?_
  rintro e w1 ⟨r, rfl, hr, k1⟩
  go_wp2_with fail
  go_ret
  exact ⟨ret_bool hr.out, k1⟩
end Go.Proofs.Ytnlncamiaddhfaa
