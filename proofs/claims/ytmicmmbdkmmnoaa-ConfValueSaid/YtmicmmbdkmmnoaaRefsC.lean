/- Layer 14: piece: walked. -/
import Derived.Test.YtmicmmbdkmmnoaaRefsM
import Derived.Test.YtmicmmbdkmmnoaaRefsX
namespace Go.Proofs.Ytmicmmbdkmmnoaa
open Go.RowKit
attribute [local go_sem ↓] Go.wp_at_zero Go.wp_at_succ

def pcC (p : Pc) (a : Nat) : List Value := [.int .i64 p.kind, .int .i64 a, .int .i64 ((a : Int) + p.len), .int .i32 p.r, .string p.name]
theorem refT_le {s : List Int} (h : s ≠ []) : (refT s).2 ≤ s.length := by
  have h0 : 0 < s.length := List.length_pos_iff.2 h
  have g : ∀ i : Nat, s[i]? = some 59 → i < s.length := fun i hi => (List.getElem?_eq_some_iff.1 hi).1
  unfold refT
  split
  · split
    · split
      · rename_i hc
        have := g _ hc.2
        dsimp only
        omega
      · dsimp only
        omega
    · split
      · rename_i hc
        have := g _ hc.2
        dsimp only
        omega
      · dsimp only
        omega
  · split
    · rename_i hc
      have := g _ hc.2
      dsimp only
      omega
    · dsimp only
      omega
theorem refT_kinds (s : List Int) : (refT s).1 = 3 ∨ ((refT s).1 = 2 ∧ (refT s).2 = leadF (s.drop 1) + 2) ∨ ((refT s).1 = 11 ∧ (refT s).2 = 1) := by
  unfold refT
  split
  · split
    · split
      · exact .inl rfl
      · exact .inr (.inr ⟨rfl, rfl⟩)
    · split
      · exact .inl rfl
      · exact .inr (.inr ⟨rfl, rfl⟩)
  · split
    · exact .inr (.inl ⟨rfl, rfl⟩)
    · exact .inr (.inr ⟨rfl, rfl⟩)
theorem lead_vr {s : List Int} : ∀ x ∈ s.take (leadF s), Vr x := by
  intro x hx
  have hall : ∀ (p : Int → Bool) (s : List Int), ∀ x ∈ s.take (runF p s), p x = true := by
    intro p s
    induction s with
    | nil => intro x hx; cases hx
    | cons y s ih =>
      intro x hx
      unfold runF at hx
      rw [List.takeWhile_cons] at hx
      split at hx
      · rename_i hp
        rw [List.length_cons, List.take_succ_cons] at hx
        rcases List.mem_cons.1 hx with rfl | hx
        · exact hp
        · exact ih x hx
      · cases hx
  unfold leadF at hx
  split at hx
  · have hc := hall nameChar s x hx
    unfold Vr
    unfold nameChar nameStart nameMore inSpans nsSpans nmSpans at hc
    simp at hc
    omega
  · rw [List.take_zero] at hx
    cases hx
set_option maxHeartbeats 4000000 in
theorem piece_any (A : Option Addr) (n c : Nat) (l : List Int) (a : Nat) (w : World) (h : Sl w 1 A n c (l.map (Value.int .i32))) (hn : n ≤ 1000000) (ha : a < n) (h38 : l[a]? = some 38) :
    Calls Try.prog 55 #[.slice A n c, .int .i64 a] w fun e w' => e = .returned (.agg (pcC (pieceF (l.drop a)) a).toArray) ∧ Kept w w' := by
  have hcap := h.cap
  have hmax := h.max
  have hl := h.llen1
  have hne : l.drop a ≠ [] := by
    intro e
    have := congrArg List.length e
    rw [List.length_drop, List.length_nil] at this
    omega
  have h0 : (l.drop a)[0]? = some 38 := by rw [List.getElem?_drop, Nat.add_zero]; exact h38
  have hpc : pieceF (l.drop a) = (if (refT (l.drop a)).1 = 3 then (if 0 ≤ numberF ((l.drop a).take (refT (l.drop a)).2) then ⟨2, (refT (l.drop a)).2, numberF ((l.drop a).take (refT (l.drop a)).2), ⟨#[]⟩⟩ else ⟨4, (refT (l.drop a)).2, 0, ⟨#[]⟩⟩)
     else if (refT (l.drop a)).1 = 2 then ⟨3, (refT (l.drop a)).2, 0, nameB (((l.drop a).drop 1).take ((refT (l.drop a)).2 - 2))⟩ else ⟨4, 1, 0, ⟨#[]⟩⟩) := by
    unfold pieceF
    rw [if_pos h0]
  have hle := refT_le hne
  rw [List.length_drop] at hle
  have h1 := refT_len (l.drop a)
  have hkk := refT_kinds (l.drop a)
  have hvr := lead_vr (s := l.drop (a + 1))
  have hnext := fun w' (hk' : Kept w w') => next_any A n c l a w' (h.kept hk') hn ha h38
  unfold tokC at hnext
  rw [show (l.drop a).drop 1 = l.drop (a + 1) from List.drop_drop ..] at hpc hkk
  obtain ⟨tk, tt, hT⟩ : ∃ tk tt, refT (l.drop a) = (tk, tt) := ⟨_, _, rfl⟩
  rw [hT] at hnext hpc hle h1 hkk
  dsimp only at hnext hpc hle h1 hkk
  clear hT hne
  have hnum := fun (hA : A = A) w' (hk' : Kept w w') => number_any (cutA A c a 1) (a + tt - a) (c - a) ((l.drop a).take (a + tt - a)) w' ((h.kept hk').cut1 (i := a) (m := a + tt) (by omega) (by omega)) (by omega) (by rw [List.getElem?_take, if_pos (by omega)]; exact h0)
  have hcut := fun wx => run_cut_lh appT_runes A n c a (a + tt) (by omega) (by omega) wx
  rw [Int.natCast_add] at hcut
  rw [show a + tt - a = tt by omega] at hnum hcut
  obtain ⟨A2, hA2⟩ : ∃ A2, A2 = cutA A c a 1 := ⟨_, rfl⟩
  rw [← hA2] at hcut hnum
  obtain ⟨NF, hNF⟩ : ∃ z, numberF ((l.drop a).take tt) = z := ⟨_, rfl⟩
  rw [hNF] at hnum hpc
  obtain ⟨RV, hRV⟩ : ∃ z, (if 0 ≤ NF then NF else 0) = z := ⟨_, rfl⟩
  obtain ⟨RB, hRB⟩ : ∃ z, decide (0 ≤ NF) = z := ⟨_, rfl⟩
  rw [hRV, hRB] at hnum
  obtain ⟨tb, htb⟩ : ∃ b, (tk != 11) = b := ⟨_, rfl⟩
  rw [htb] at hnext
  have HNX := Lib.hid hnext
  have HNM := Lib.hid (hnum rfl)
  clear hnext hnum htb hNF h0 hA2
  obtain ⟨PC, hPC⟩ : ∃ z, pieceF (l.drop a) = z := ⟨_, rfl⟩
  rw [hPC] at hpc ⊢
  clear hPC
  have hk0 : Kept w (w.alloc (.cells #[.int .i64 0, .int .i64 0, .int .i64 0, .int .i32 0, .string ⟨#[]⟩] 73)) := (Kept.refl _).alloc _
  have B0 := Blk.new w #[.int .i64 0, .int .i64 0, .int .i64 0, .int .i32 0, .string ⟨#[]⟩] 73
  have q0 : (0 : Int) ≤ a := by omega
  by_cases k3 : tk = 3
  · subst k3
    rw [if_pos rfl] at hpc
    clear hkk hvr
    have HPC : Hid (PC = if RB = true then ⟨2, tt, RV, ⟨#[]⟩⟩ else ⟨4, tt, 0, ⟨#[]⟩⟩) := by
      unfold Hid
      rw [hpc, ← hRB, ← hRV]
      by_cases h : 0 ≤ NF
      · simp [h]
      · simp [h]
    clear hpc hRB hRV
    go_enter Try.func55, Try.ntmps55
    go_wp2_with fail
    generalize w.alloc (.cells #[.int .i64 0, .int .i64 0, .int .i64 0, .int .i32 0, .string ⟨#[]⟩] 73) = w1 at hk0 B0 ⊢
    refine (HNX.out _ hk0).mono ?_
    rintro e w2 ⟨rfl, k2⟩
    have hk2 := hk0.trans k2
    have B2 := B0.kept k2
    have hne2 : (w.heap.size = w2.heap.size) = False := by have := B2.lt; simp; omega
    have hne3 : (w2.heap.size = w.heap.size) = False := by have := B2.lt; simp; omega
    clear k2 B0 hk0
    go_wp2_with fail
    refine (HNM.out _ (hk2.alloc _)).mono ?_
    rintro e w3 ⟨rfl, k3⟩
    have hk3 := (hk2.alloc (.cells #[.int .i64 3, .int .i64 a, .int .i64 ((a : Int) + tt), .bool tb] 119)).trans k3
    have B3 := (B2.alloc (.cells #[.int .i64 3, .int .i64 a, .int .i64 ((a : Int) + tt), .bool tb] 119)).kept k3
    have T3 := (Blk.new w2 #[.int .i64 3, .int .i64 a, .int .i64 ((a : Int) + tt), .bool tb] 119).kept k3
    have f8 := T3.cell
    have g8 := T3.frozen
    have f9 := B3.cell
    have g9 := B3.frozen
    clear k3 hk2
    cases RB
    · go_wp2_with fail
      refine bodyPost_ret (v := .agg #[.int .i64 4, .int .i64 a, .int .i64 ((a : Int) + tt), .int .i32 0, .string ⟨#[]⟩]) ?_ rfl ⟨?_, ?_⟩
      · simp [results, Try.results55, go_sem, f9]
      · rw [HPC.out]
        simp [pcC]
      · repeat (first | (with_reducible exact hk3) | (with_reducible refine Kept.setCell ?_ (by simp; try omega) _) | (with_reducible refine Kept.drew ?_))
    · go_wp2_with fail
      refine bodyPost_ret (v := .agg #[.int .i64 2, .int .i64 a, .int .i64 ((a : Int) + tt), .int .i32 RV, .string ⟨#[]⟩]) ?_ rfl ⟨?_, ?_⟩
      · simp [results, Try.results55, go_sem, f9]
      · rw [HPC.out]
        simp [pcC]
      · repeat (first | (with_reducible exact hk3) | (with_reducible refine Kept.setCell ?_ (by simp; try omega) _) | (with_reducible refine Kept.drew ?_))
  rw [if_neg k3] at hpc
  by_cases k2e : tk = 2
  rotate_left
  · rw [if_neg k2e] at hpc
    have hk11 : tk = 11 := by rcases hkk with h | ⟨h, _⟩ | ⟨h, _⟩; exact absurd h k3; exact absurd h k2e; exact h
    subst hk11
    have HPC := Lib.hid hpc
    have wa : IntKind.i64.wrap ((a : Int) + 1) = (a : Int) + 1 := IntWalk.i64_in _ (by omega)
    clear hpc hRB hRV hkk hvr k3 k2e
    go_enter Try.func55, Try.ntmps55
    go_wp2_with fail
    generalize w.alloc (.cells #[.int .i64 0, .int .i64 0, .int .i64 0, .int .i32 0, .string ⟨#[]⟩] 73) = w1 at hk0 B0 ⊢
    refine (HNX.out _ hk0).mono ?_
    rintro e w2 ⟨rfl, k2⟩
    have hk2 := hk0.trans k2
    have B2 := B0.kept k2
    have hne2 : (w.heap.size = w2.heap.size) = False := by have := B2.lt; simp; omega
    have hne3 : (w2.heap.size = w.heap.size) = False := by have := B2.lt; simp; omega
    have B3 := fun ob => (B2.alloc ob).cell
    have G3 := fun ob => (B2.alloc ob).frozen
    have f9 := B2.cell
    have g9 := B2.frozen
    clear k2 B0 hk0
    go_wp2_with fail
    refine bodyPost_ret (v := .agg #[.int .i64 4, .int .i64 a, .int .i64 ((a : Int) + 1), .int .i32 0, .string ⟨#[]⟩]) ?_ rfl ⟨?_, ?_⟩
    · simp [results, Try.results55, go_sem, B3]
    · rw [HPC.out]
      simp [pcC]
    · repeat (first | (with_reducible exact hk2.alloc _) | (with_reducible refine Kept.setCell ?_ (by simp; try omega) _) | (with_reducible refine Kept.drew ?_))
  subst k2e
  rw [if_pos rfl] at hpc
  have htt : tt = leadF (l.drop (a + 1)) + 2 := by
    rcases hkk with h | ⟨_, h⟩ | ⟨h, _⟩
    · exact absurd h (by decide)
    · exact h
    · exact absurd h (by decide)
  have hcs := fun w' (hk' : Kept w w') => (h.kept hk').cut1 (i := a + 1) (m := a + tt - 1) (by omega) (by omega)
  have hcut2 := fun wx => run_cut_lh appT_runes A n c (a + 1) (a + tt - 1) (by omega) (by omega) wx
  rw [show ((a + 1 : Nat) : Int) = (a : Int) + 1 by omega, show ((a + tt - 1 : Nat) : Int) = (a : Int) + tt - 1 by omega] at hcut2
  rw [show a + tt - 1 - (a + 1) = tt - 2 by omega] at hcut2 hcs
  rw [show tt - 2 = leadF (l.drop (a + 1)) by omega] at hcut2 hcs hpc
  have hby := fun w' (hk' : Kept w w') => sbytes_any _ _ _ _ w' (hcs w' hk') (by omega) hvr
  obtain ⟨A3, hA3⟩ : ∃ z, cutA A c (a + 1) 1 = z := ⟨_, rfl⟩
  obtain ⟨ML, hML⟩ : ∃ z, leadF (l.drop (a + 1)) = z := ⟨_, rfl⟩
  rw [hML] at hcut2 hby hpc htt
  rw [hA3] at hcut2 hby
  obtain ⟨NM, hNM⟩ : ∃ z, nameB ((l.drop (a + 1)).take ML) = z := ⟨_, rfl⟩
  obtain ⟨C3, hC3⟩ : ∃ z, c - (a + 1) = z := ⟨_, rfl⟩
  rw [hC3] at hcut2 hby
  rw [hNM] at hpc
  have HPC := Lib.hid hpc
  have w1' : IntKind.i64.wrap ((a : Int) + 1) = (a : Int) + 1 := IntWalk.i64_in _ (by omega)
  have w2' : IntKind.i64.wrap ((a : Int) + tt - 1) = (a : Int) + tt - 1 := IntWalk.i64_in _ (by omega)
  have hbytes : ∀ w', Kept w w' → Calls Try.prog 65 #[.slice A3 ML C3] w' fun e w'' => ∃ VA VN VC, e = .returned (.slice VA VN VC) ∧ (convert 89 9 (.slice VA VN VC)).run Try.prog w'' = .ok (.string NM) w'' ∧ Kept w' w'' := by
    intro w' hk'
    refine (hby w' hk').mono ?_
    rintro e w'' ⟨VA, VC, rfl, hs, hk⟩
    have hr := run_str (P := Try.prog) Try.underlying89 Try.underlying5 Try.underlying9 hs
    rw [show strOfNums (((l.drop (a + 1)).take ML).flatMap encF) = NM from hNM] at hr
    exact ⟨VA, _, VC, rfl, hr, hk⟩
  have HBY := Lib.hid hbytes
  clear htt hbytes hby hcs hcut hpc hkk hvr hRB hRV hA3 hML hNM hC3 k3 HNM
  go_enter Try.func55, Try.ntmps55
  go_wp2_with fail
  generalize w.alloc (.cells #[.int .i64 0, .int .i64 0, .int .i64 0, .int .i32 0, .string ⟨#[]⟩] 73) = w1 at hk0 B0 ⊢
  refine (HNX.out _ hk0).mono ?_
  rintro e w2 ⟨rfl, k2⟩
  have hk2 := hk0.trans k2
  have B2 := B0.kept k2
  have hlt2 := B2.lt
  have hne2 : (w.heap.size = w2.heap.size) = False := by simp; omega
  have hne3 : (w2.heap.size = w.heap.size) = False := by simp; omega
  clear k2 B0 hk0
  go_wp2_with fail
  have hk3 := hk2.alloc (.cells #[.int .i64 2, .int .i64 a, .int .i64 ((a : Int) + tt), .bool tb] 119)
  have B3 := B2.alloc (.cells #[.int .i64 2, .int .i64 a, .int .i64 ((a : Int) + tt), .bool tb] 119)
  have T3 := Blk.new w2 #[.int .i64 2, .int .i64 a, .int .i64 ((a : Int) + tt), .bool tb] 119
  have hT2 : ∀ w', Kept (w2.alloc (.cells #[.int .i64 2, .int .i64 a, .int .i64 ((a : Int) + tt), .bool tb] 119)) w' → w'.cell? ⟨w2.heap.size, 2, none⟩ = some (.int .i64 ((a : Int) + tt)) := fun w' hk' => hk'.cell (T3.cell 2)
  refine wp_region_held_drew (S := fun w' => w'.cell? ⟨w2.heap.size, 2, none⟩ = some (.int .i64 ((a : Int) + tt))) (by kernel_rfl) (hT2 _ (Kept.refl _).drew) (fun hHeld => ?_)
  refine wpAnyH_take (i := 0) (oi := { dst := some 40, op := Op.move (Operand.tmp 1), type := 3, pos := "refs.go:84", after := #[], guard := none }) (v := ?vv0) rfl (by kernel_rfl) (by kernel_rfl) (by kernel_rfl) (fun _ _ _ h => h) (Or.inl ⟨by rfl, ?hy0⟩) (by assumption) ?rest0
  case hy0 => (intro wS hSw; (try dsimp only at hSw); go_simp; try (with_reducible rfl))
  try simp only [Act.put, List.setIfInBounds_toArray, List.set_cons_zero, List.set_cons_succ]
  refine wpAnyH_take (i := 1) (oi := { dst := some 41, op := Op.fieldAddr 119 (Operand.tmp 5) 2, type := 0, pos := "refs.go:84", after := #[], guard := none }) (v := ?vv1) rfl (by kernel_rfl) (by kernel_rfl) (by kernel_rfl) (fun _ _ _ h => h) (Or.inl ⟨by rfl, ?hy1⟩) (by assumption) ?rest1
  case hy1 => (intro wS hSw; (try dsimp only at hSw); go_simp; try (with_reducible rfl))
  try simp only [Act.put, List.setIfInBounds_toArray, List.set_cons_zero, List.set_cons_succ]
  refine wpAnyH_take (i := 2) (oi := { dst := some 42, op := Op.load 3 (Operand.tmp 41), type := 3, pos := "refs.go:84", after := #[{ on := 1, ground := Ground.data }], guard := none }) (v := ?vv2) rfl (by kernel_rfl) (by kernel_rfl) (by kernel_rfl) (fun _ _ _ h => h) (Or.inl ⟨by rfl, ?hy2⟩) (by assumption) ?rest2
  case hy2 => (intro wS hSw; (try dsimp only at hSw); go_simp; try (with_reducible rfl))
  try simp only [Act.put, List.setIfInBounds_toArray, List.set_cons_zero, List.set_cons_succ]
  refine wpAnyH_take (i := 3) (oi := { dst := some 43, op := Op.move (Operand.tmp 0), type := 36, pos := "refs.go:84", after := #[], guard := none }) (v := ?vv3) rfl (by kernel_rfl) (by kernel_rfl) (by kernel_rfl) (fun _ _ _ h => h) (Or.inl ⟨by rfl, ?hy3⟩) (by assumption) ?rest3
  case hy3 => (intro wS hSw; (try dsimp only at hSw); go_simp; try (with_reducible rfl))
  try simp only [Act.put, List.setIfInBounds_toArray, List.set_cons_zero, List.set_cons_succ]
  refine wpAnyH_take (i := 4) (oi := { dst := some 44, op := Op.move (Operand.tmp 1), type := 3, pos := "refs.go:84", after := #[], guard := none }) (v := ?vv4) rfl (by kernel_rfl) (by kernel_rfl) (by kernel_rfl) (fun _ _ _ h => h) (Or.inl ⟨by rfl, ?hy4⟩) (by assumption) ?rest4
  case hy4 => (intro wS hSw; (try dsimp only at hSw); go_simp; try (with_reducible rfl))
  try simp only [Act.put, List.setIfInBounds_toArray, List.set_cons_zero, List.set_cons_succ]
  refine wpAnyH_take (i := 5) (oi := { dst := some 45, op := Op.binOp BinOp.add 3 (Operand.tmp 44) (Operand.const (Value.int IntKind.i64 1)) 3, type := 3, pos := "refs.go:84", after := #[{ on := 4, ground := Ground.data }], guard := none }) (v := ?vv5) rfl (by kernel_rfl) (by kernel_rfl) (by kernel_rfl) (fun _ _ _ h => h) (Or.inl ⟨by rfl, ?hy5⟩) (by assumption) ?rest5
  case hy5 => (intro wS hSw; (try dsimp only at hSw); go_simp; try (with_reducible rfl))
  try simp only [Act.put, List.setIfInBounds_toArray, List.set_cons_zero, List.set_cons_succ]
  refine wpAnyH_take (i := 6) (oi := { dst := some 46, op := Op.fieldAddr 119 (Operand.tmp 5) 2, type := 0, pos := "refs.go:84", after := #[], guard := none }) (v := ?vv6) rfl (by kernel_rfl) (by kernel_rfl) (by kernel_rfl) (fun _ _ _ h => h) (Or.inl ⟨by rfl, ?hy6⟩) (by assumption) ?rest6
  case hy6 => (intro wS hSw; (try dsimp only at hSw); go_simp; try (with_reducible rfl))
  try simp only [Act.put, List.setIfInBounds_toArray, List.set_cons_zero, List.set_cons_succ]
  refine wpAnyH_take (i := 7) (oi := { dst := some 47, op := Op.load 3 (Operand.tmp 46), type := 3, pos := "refs.go:84", after := #[{ on := 6, ground := Ground.data }], guard := none }) (v := ?vv7) rfl (by kernel_rfl) (by kernel_rfl) (by kernel_rfl) (fun _ _ _ h => h) (Or.inl ⟨by rfl, ?hy7⟩) (by assumption) ?rest7
  case hy7 => (intro wS hSw; (try dsimp only at hSw); go_simp; try (with_reducible rfl))
  try simp only [Act.put, List.setIfInBounds_toArray, List.set_cons_zero, List.set_cons_succ]
  refine wpAnyH_take (i := 8) (oi := { dst := some 48, op := Op.binOp BinOp.sub 3 (Operand.tmp 47) (Operand.const (Value.int IntKind.i64 1)) 3, type := 3, pos := "refs.go:84", after := #[{ on := 7, ground := Ground.data }], guard := none }) (v := ?vv8) rfl (by kernel_rfl) (by kernel_rfl) (by kernel_rfl) (fun _ _ _ h => h) (Or.inl ⟨by rfl, ?hy8⟩) (by assumption) ?rest8
  case hy8 => (intro wS hSw; (try dsimp only at hSw); go_simp; try (with_reducible rfl))
  try simp only [Act.put, List.setIfInBounds_toArray, List.set_cons_zero, List.set_cons_succ]
  refine wpAnyH_take (i := 9) (oi := { dst := some 49, op := Op.slice 36 (Operand.tmp 43) (some (Operand.tmp 45)) (some (Operand.tmp 48)) none, type := 36, pos := "refs.go:84", after := #[{ on := 3, ground := Ground.data }, { on := 5, ground := Ground.data }, { on := 8, ground := Ground.data }], guard := none }) (v := ?vv9) rfl (by kernel_rfl) (by kernel_rfl) (by kernel_rfl) (fun _ _ _ h => h) (Or.inl ⟨by rfl, ?hy9⟩) (by assumption) ?rest9
  case hy9 => (intro wS hSw; (try dsimp only at hSw); go_simp; try (with_reducible rfl))
  try simp only [Act.put, List.setIfInBounds_toArray, List.set_cons_zero, List.set_cons_succ]
  refine wpAnyH_ready (rs := [10]) (by kernel_rfl) (by simp) ?_
  refine AllReadyH.cons (o := { dst := some 50, op := Op.call { callee := Callee.value (Operand.func 65), args := #[Operand.tmp 49], argTypes := #[36] }, type := 89, pos := "refs.go:84", after := #[{ on := 9, ground := Ground.data }], guard := none }) rfl (fun K hK => ?step10) ?more10
  case more10 => exact AllReadyH.nil
  go_simp
  go_at_call 65
  refine (HBY.out _ hk3.drew).mono ?_
  rintro e w5 ⟨VA5, VN5, VC5, rfl, hcv5, k5⟩
  have hk5 := hk3.drew.trans k5
  have B5 := B3.drew.kept k5
  have hS5 := hT2 _ ((Kept.refl _).drew.trans k5)
  have f9 := B5.cell
  have g9 := B5.frozen
  go_wp2_with fail
  refine hK.out _ _ hS5 (fun hHeld2 => ?_)
  clear hHeld
  clear hK K
  try simp only [Act.put, List.setIfInBounds_toArray, List.set_cons_zero, List.set_cons_succ]
  refine wpAnyH_ready (rs := [11]) (by kernel_rfl) (by simp) ?_
  refine AllReadyH.cons (o := { dst := some 51, op := Op.convert 89 9 (Operand.tmp 50), type := 9, pos := "refs.go:84", after := #[{ on := 10, ground := Ground.data }], guard := none }) rfl (fun K hK => ?step11) ?more11
  case more11 => exact AllReadyH.nil
  go_simp
  refine hK.out _ _ hHeld2 (fun hHeld3 => ?_)
  clear hK K
  try simp only [Act.put, List.setIfInBounds_toArray, List.set_cons_zero, List.set_cons_succ]
  refine wpAnyH_take (i := 12) (oi := { dst := some 52, op := Op.build 73 #[(0, Operand.const (Value.int IntKind.i64 3)), (1, Operand.tmp 40), (2, Operand.tmp 42), (4, Operand.tmp 51)], type := 73, pos := "refs.go:84", after := #[{ on := 0, ground := Ground.data }, { on := 2, ground := Ground.data }, { on := 11, ground := Ground.data }], guard := none }) (v := ?vv12) rfl (by kernel_rfl) (by kernel_rfl) (by kernel_rfl) (fun _ _ _ h => h) (Or.inl ⟨by rfl, ?hy12⟩) (by assumption) ?rest12
  case hy12 => (intro wS hSw; (try dsimp only at hSw); go_simp; try (with_reducible rfl))
  try simp only [Act.put, List.setIfInBounds_toArray, List.set_cons_zero, List.set_cons_succ]
  refine wpAnyH_ready (rs := [13]) (by kernel_rfl) (by simp) ?_
  refine AllReadyH.cons (o := { dst := none, op := Op.store 73 (Operand.tmp 4) (Operand.tmp 52), type := 0, pos := "refs.go:84", after := #[{ on := 12, ground := Ground.data }, { on := 10, ground := Ground.chain }, { on := 0, ground := Ground.phase }, { on := 1, ground := Ground.phase }, { on := 2, ground := Ground.phase }, { on := 3, ground := Ground.phase }, { on := 4, ground := Ground.phase }, { on := 5, ground := Ground.phase }, { on := 6, ground := Ground.phase }, { on := 7, ground := Ground.phase }, { on := 8, ground := Ground.phase }, { on := 9, ground := Ground.phase }, { on := 10, ground := Ground.phase }, { on := 11, ground := Ground.phase }, { on := 12, ground := Ground.phase }], guard := none }) rfl (fun K hK => ?step13) ?more13
  case more13 => exact AllReadyH.nil
  go_simp
  refine hK.out _ _ (by simp [go_sem, hS5]) (fun hHeld4 => ?_)
  clear hK K
  try simp only [Act.put, List.setIfInBounds_toArray, List.set_cons_zero, List.set_cons_succ]
  refine wpAnyH_done (by kernel_rfl) ?_ _
  go_wp2_with fail
  refine bodyPost_ret (v := .agg #[.int .i64 3, .int .i64 a, .int .i64 ((a : Int) + tt), .int .i32 0, .string NM]) ?_ rfl ⟨?_, ?_⟩
  · simp [results, Try.results55, go_sem, f9]
  · rw [HPC.out]
    simp [pcC]
  · repeat (first | (with_reducible exact hk5) | (with_reducible refine Kept.setCell ?_ (by simp; try omega) _) | (with_reducible refine Kept.drew ?_))
end Go.Proofs.Ytmicmmbdkmmnoaa
