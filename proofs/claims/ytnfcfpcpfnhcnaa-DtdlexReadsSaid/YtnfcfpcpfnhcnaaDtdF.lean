/- Layer 9: the reader's is, outside, inside: walked. -/
import Derived.Test.YtnfcfpcpfnhcnaaDtdE
import Derived.Test.YtnfcfpcpfnhcnaaClassD
namespace Go.Proofs.Ytnfcfpcpfnhcnaa
open Go.RowKit
attribute [local go_sem ↓] Go.wp_at_zero Go.wp_at_succ

theorem runF_all (p : Int → Bool) : ∀ l : List Int, (runF p l = l.length) = (l.all p = true)
  | [] => by simp [runF]
  | x :: t => by
    have ih := runF_all p t
    unfold runF at ih ⊢
    rw [List.takeWhile_cons, List.all_cons]
    cases hx : p x
    · simp
    · simp only [if_true, Bool.true_and, ← ih, List.length_cons]
      apply propext
      omega
theorem neq_nilFunc (F : Nat) (w : World) : (binOp .neq 60 (.func (.func F) #[] #[]) .nilFunc).run Try.prog w = .ok (.bool true) w := by
  have hu : Try.prog.underlying 60 = some (.func #[21] #[4] false) := by kernel_rfl
  have h : ∀ d : Nat, (Op.equalIn (d + 1) 60 (.func (.func F) #[] #[]) .nilFunc).run Try.prog w = .ok false w := fun d => by
    simp [Op.equalIn, run_underlying hu]
  simp only [binOp]
  simp [Op.equal, Op.maxDepth, h 9999]
theorem all_pub (A : Option Addr) (n c : Nat) (l : List Int) (w : World) (h : Sl w 1 A n c (l.map (Value.int .i32))) :
    Calls Try.prog 53 #[.slice A n c, .func (.func 54) #[] #[]] w fun e w' => e = .returned (.bool (l.all isPubid)) ∧ Kept w w' := by
  have hr := run_any _ isPubid (enters Try.func54 (by kernel_rfl) (by kernel_rfl)) pubid_any A n c l 0 w h (by omega)
  rw [List.drop_zero] at hr
  have hl := h.llen1
  have hall : (l.all isPubid = true) = (runF isPubid l = n) := by
    rw [← hl]
    exact (runF_all isPubid l).symm
  have hnil := neq_nilFunc 54
  have HR := Lib.hid hr
  obtain ⟨R, hR⟩ : ∃ R, runF isPubid l = R := ⟨_, rfl⟩
  obtain ⟨V, hV⟩ : ∃ V, l.all isPubid = V := ⟨_, rfl⟩
  rw [hR] at HR hall
  rw [hV] at hall
  rw [hV]
  have HA := Lib.hid hall
  clear hr hl hall hR hV
  by_cases hn : R = n
  · have HV := Lib.hid (show V = true by rw [HA.out]; exact hn)
    subst hn
    go_enter Try.func53, Try.ntmps53
    go_wp2_with fail
    refine HR.out.mono ?_
    rintro e w1 ⟨rfl, k1⟩
    go_wp2_with fail
    go_ret
    exact ⟨ret_bool (by rw [HV.out]; try simp), k1⟩
  · have HV := Lib.hid (show V = false by
      rw [← Bool.not_eq_true]
      intro h
      rw [HA.out] at h
      exact hn h)
    have l1 : ¬ ((R : Int) = n) := by omega
    have l2 : ((R : Int) == (n : Int)) = false := by simp; omega
    go_enter Try.func53, Try.ntmps53
    go_wp2_with fail
    refine HR.out.mono ?_
    rintro e w1 ⟨rfl, k1⟩
    go_wp2_with fail
    go_ret
    exact ⟨ret_bool (by rw [HV.out]; try simp), k1⟩

section
variable (w : World) (ad : Addr) (m c : Nat)
theorem prt_nil_eq : (binOp .eql 25 (.slice none 0 0) (.slice none 0 0)).run Try.prog w = .ok (.bool true) w := by
  have hu := Try.underlying25
  have h : ∀ d : Nat, (Op.equalIn (d + 1) 25 (.slice none 0 0) (.slice none 0 0)).run Try.prog w = .ok true w := fun d => by
    simp [Op.equalIn, run_underlying hu]
  simp only [binOp]
  simp [Op.equal, Op.maxDepth, h 9999]
theorem prt_some_eq : (binOp .eql 25 (.slice (some ad) m c) (.slice none 0 0)).run Try.prog w = .ok (.bool false) w := by
  have hu := Try.underlying25
  have h : ∀ d : Nat, (Op.equalIn (d + 1) 25 (.slice (some ad) m c) (.slice none 0 0)).run Try.prog w = .ok false w := fun d => by
    simp [Op.equalIn, run_underlying hu]
  simp only [binOp]
  simp [Op.equal, Op.maxDepth, h 9999]
theorem prt_nil_ne : (binOp .neq 25 (.slice none 0 0) (.slice none 0 0)).run Try.prog w = .ok (.bool false) w := by
  have hu := Try.underlying25
  have h : ∀ d : Nat, (Op.equalIn (d + 1) 25 (.slice none 0 0) (.slice none 0 0)).run Try.prog w = .ok true w := fun d => by
    simp [Op.equalIn, run_underlying hu]
  simp only [binOp]
  simp [Op.equal, Op.maxDepth, h 9999]
theorem prt_some_ne : (binOp .neq 25 (.slice (some ad) m c) (.slice none 0 0)).run Try.prog w = .ok (.bool true) w := by
  have hu := Try.underlying25
  have h : ∀ d : Nat, (Op.equalIn (d + 1) 25 (.slice (some ad) m c) (.slice none 0 0)).run Try.prog w = .ok false w := fun d => by
    simp [Op.equalIn, run_underlying hu]
  simp only [binOp]
  simp [Op.equal, Op.maxDepth, h 9999]
end
/-- Is a part that word? -/
def isW (l : List Int) (p : Prt) (s : ByteArray) : Bool := decide (p.t - p.f = (s.size : Int)) && startsF (strI s) (l.drop p.f.toNat)
set_option maxHeartbeats 4000000 in
theorem dis_any (A : Option Addr) (n c : Nat) (l : List Int) (PA : Option Addr) (pn pc a g : Nat) (p : Prt) (s : ByteArray) (w : World) (hB : Blk w g (rdr A n c PA pn pc a) 52) (hl : Sl w 1 A n c (l.map (Value.int .i32))) (hn : n ≤ 1000000)
    (h0 : 0 ≤ p.f) (hf : p.f ≤ 1000000) (ht : 0 ≤ p.t) (ht2 : p.t ≤ 1000000) (hs : 0 < s.size) (hb : s.size ≤ 1000) (hasc : ∀ x ∈ strI s, x < 128) :
    Calls Try.prog 52 #[.pointer (some ⟨g, 0, none⟩), .agg #[.int .i64 p.k, .int .i64 p.f, .int .i64 p.t], .string s] w fun e w' => e = .returned (.bool (isW l p s)) ∧ Kept w w' := by
  obtain ⟨pk, pf, pt⟩ := p
  dsimp only at h0 hf ht ht2 ⊢
  obtain ⟨F, rfl⟩ := Int.eq_ofNat_of_zero_le h0
  obtain ⟨T, rfl⟩ := Int.eq_ofNat_of_zero_le ht
  have hS := fun w' (kk : Kept w w') => starts_any A n c l F s w' (hl.kept kk) hs hb hn (by omega) hasc
  unfold isW
  simp only [Int.toNat_natCast]
  obtain ⟨q, hq⟩ : ∃ q, startsF (strI s) (l.drop F) = q := ⟨_, rfl⟩
  rw [hq] at hS ⊢
  have HS := Lib.hid hS
  obtain ⟨V, hV⟩ : ∃ V, (decide ((T : Int) - F = (s.size : Int)) && q) = V := ⟨_, rfl⟩
  rw [hV]
  have HV := Lib.hid hV
  clear hS hasc hq hV
  have ws : IntKind.i64.wrap ((T : Int) - F) = (T : Int) - F := IntWalk.i64_in _ (by omega)
  have k1 : Kept w (w.alloc (.cells #[.int .i64 pk, .int .i64 F, .int .i64 T] 32)) := (Kept.refl w).alloc _
  have b1 : Blk (w.alloc (.cells #[.int .i64 pk, .int .i64 F, .int .i64 T] 32)) w.heap.size #[.int .i64 pk, .int .i64 F, .int .i64 T] 32 := Blk.new w _ _
  have B1 := hB.kept k1
  go_enter Try.func52, Try.ntmps52
  go_upto_region 1 with fail
  generalize w.alloc (.cells #[.int .i64 pk, .int .i64 F, .int .i64 T] 32) = w1 at k1 b1 B1 ⊢
  generalize w.heap.size = g1 at b1 ⊢
  have c0 : w1.cell? ⟨g, 0, none⟩ = some (.slice A n c) := B1.cell 0
  have d1 : w1.cell? ⟨g1, 1, none⟩ = some (.int .i64 F) := b1.cell 1
  have d2 : w1.cell? ⟨g1, 2, none⟩ = some (.int .i64 T) := b1.cell 2
  by_cases he : (T : Int) - F = s.size
  · obtain rfl : q = V := by
      have := HV.out
      rw [decide_eq_true he, Bool.true_and] at this
      exact this
    clear HV
    have l1 : ((T : Int) - F == (s.size : Int)) = true := by simpa using he
    clear he
    have MK : Hid (∀ w', Kept w1 w' → w'.cell? ⟨g, 0, none⟩ = some (.slice A n c) ∧ w'.cell? ⟨g1, 1, none⟩ = some (.int .i64 F) ∧ w'.cell? ⟨g1, 2, none⟩ = some (.int .i64 T)) := fun w' kk => ⟨kk.cell c0, kk.cell d1, kk.cell d2⟩
    go_region_held3 (fun w' => w'.cell? ⟨g, 0, none⟩ = some (.slice A n c) ∧ w'.cell? ⟨g1, 1, none⟩ = some (.int .i64 F) ∧ w'.cell? ⟨g1, 2, none⟩ = some (.int .i64 T))
      (first | (with_reducible exact MK.out _ (Kept.refl w1).drew) | (with_reducible exact MK.out _ kw1))
      (first | (go_at_call 21; refine (HS.out _ k1.drew).mono ?_; rintro e w2 ⟨rfl, k2⟩; have kw1 : Kept w1 w2 := Kept.trans (Kept.refl w1).drew k2))
    go_wp2_with fail
    go_ret
    exact ⟨rfl, k1.trans kw1⟩
  · obtain rfl : V = false := by
      have := HV.out
      rw [decide_eq_false he, Bool.false_and] at this
      exact this.symm
    clear HV
    have l1 : ((T : Int) - F == (s.size : Int)) = false := by simpa using he
    first | go_region | fail
    all_goals
      go_wp2_with fail
      go_ret
      exact ⟨rfl, k1.drew⟩
end Go.Proofs.Ytnfcfpcpfnhcnaa
