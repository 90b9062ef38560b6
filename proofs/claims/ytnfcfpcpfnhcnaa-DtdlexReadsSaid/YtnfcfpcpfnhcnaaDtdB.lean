/- Layer 9: item, Words, Items, closes: walked. Printed by gen_dtdb.py. -/
import Derived.Test.YtnfcfpcpfnhcnaaDtdA
namespace Go.Proofs.Ytnfcfpcpfnhcnaa
open Go.RowKit
attribute [local go_sem ↓] Go.wp_at_zero Go.wp_at_succ

theorem appT_dprt : AppT Try.prog 25 32 3 := appT_mk (z := .agg #[.int .i64 0, .int .i64 0, .int .i64 0]) (bytes := 24) Try.underlying25 (by kernel_rfl) rfl (by omega) (by omega)

theorem ditem_any (A : Option Addr) (n c : Nat) (l : List Int) (w : World) (h : Sl w 1 A n c (l.map (Value.int .i32))) (hn : n ≤ 1000000) (h0 : 0 < n) :
    Calls Try.prog 29 #[.slice A n c] w fun e w' => e = .returned (.tuple #[.int .i64 (itemF l).1, .int .i64 ((itemF l).2 : Nat)]) ∧ Kept w w' := by
  have hcap := h.cap
  have hmax := h.max
  have hl := h.llen1
  have hc0 := fun w' (hk : Kept w w') => starts_any A n c l 0 ⟨#[60, 33, 45, 45]⟩ w' (h.kept hk) (by decide) (by decide) hn (by omega) (by decide)
  rw [show strI ⟨#[60, 33, 45, 45]⟩ = cmt from rfl, List.drop_zero] at hc0
  have hs0 := startsF_len (p := cmt) (s := l)
  rw [hl] at hs0
  have hc1 := fun w' (hk : Kept w w') => starts_any A n c l 0 ⟨#[60, 63]⟩ w' (h.kept hk) (by decide) (by decide) hn (by omega) (by decide)
  rw [show strI ⟨#[60, 63]⟩ = pis from rfl, List.drop_zero] at hc1
  have hs1 := startsF_len (p := pis) (s := l)
  rw [hl] at hs1
  have hc2 := fun w' (hk : Kept w w') => starts_any A n c l 0 ⟨#[60, 33]⟩ w' (h.kept hk) (by decide) (by decide) hn (by omega) (by decide)
  rw [show strI ⟨#[60, 33]⟩ = [60, 33] from rfl, List.drop_zero] at hc2
  have hs2 := startsF_len (p := [60, 33]) (s := l)
  rw [hl] at hs2
  have hu0 := fun (hle : 4 ≤ n) w' (hk : Kept w w') => dtill_any A n c l 4 ⟨#[45, 45, 62]⟩ w' (h.kept hk) (by decide) (by decide) hn hle (by decide)
  have hu1 := fun (hle : 2 ≤ n) w' (hk : Kept w w') => dtill_any A n c l 2 ⟨#[63, 62]⟩ w' (h.kept hk) (by decide) (by decide) hn hle (by decide)
  rw [show strI ⟨#[45, 45, 62]⟩ = cmt2 from rfl] at hu0
  rw [show strI ⟨#[63, 62]⟩ = pis2 from rfl] at hu1
  have hu2 := fun w' (hk : Kept w w') => ddeclared_any A n c l w' (h.kept hk) hn
  have hu3 := fun (h37 : l[0]? = some 37) w' (hk : Kept w w') => dnamed_any A n c l w' (h.kept hk) hn h0 h37
  have hu4 := fun w' (hk : Kept w w') => run_any _ isSpace (enters Try.func39 (by kernel_rfl) (by kernel_rfl)) (fun x w => (space_any x w).mono (fun e w' h => ⟨h.1, h.2 ▸ Kept.refl w⟩)) A n c l 0 w' (h.kept hk) (by omega)
  rw [List.drop_zero] at hu4
  obtain ⟨b, o, x, rfl, hx, hc, hbb⟩ := h.oneb (k := 0) h0
  have hc' : w.cell? ⟨b, o, none⟩ = some (.int .i32 x) := hc
  obtain ⟨K, N, hKN⟩ : ∃ K N, itemF l = (K, N) := ⟨_, _, rfl⟩
  rw [hKN]
  unfold itemF itemK at hKN
  rw [hx] at hKN hu3
  simp only [Option.some.injEq] at hu3 hKN
  clear hc
  obtain ⟨b0, hb0⟩ : ∃ b, startsF cmt l = b := ⟨_, rfl⟩
  rw [hb0] at hc0 hs0 hKN
  have C0 := Lib.hid hc0
  clear hc0 hb0
  obtain ⟨b1, hb1⟩ : ∃ b, startsF pis l = b := ⟨_, rfl⟩
  rw [hb1] at hc1 hs1 hKN
  have C1 := Lib.hid hc1
  clear hc1 hb1
  obtain ⟨b2, hb2⟩ : ∃ b, startsF [60, 33] l = b := ⟨_, rfl⟩
  rw [hb2] at hc2 hs2 hKN
  have C2 := Lib.hid hc2
  clear hc2 hb2
  obtain ⟨z0, hz0⟩ : ∃ z, tillF 4 cmt2 l = z := ⟨_, rfl⟩
  rw [hz0] at hu0 hKN
  have U0 := Lib.hid hu0
  clear hu0 hz0
  obtain ⟨z1, hz1⟩ : ∃ z, tillF 2 pis2 l = z := ⟨_, rfl⟩
  rw [hz1] at hu1 hKN
  have U1 := Lib.hid hu1
  clear hu1 hz1
  obtain ⟨z2, hz2⟩ : ∃ z, declS l = z := ⟨_, rfl⟩
  rw [hz2] at hu2 hKN
  have U2 := Lib.hid hu2
  clear hu2 hz2
  obtain ⟨z3, hz3⟩ : ∃ z, namedS l = z := ⟨_, rfl⟩
  rw [hz3] at hu3 hKN
  have U3 := Lib.hid hu3
  clear hu3 hz3
  obtain ⟨z4, hz4⟩ : ∃ z, runF isSpace l = z := ⟨_, rfl⟩
  rw [hz4] at hu4 hKN
  have U4 := Lib.hid hu4
  clear hu4 hz4
  clear h hx
  cases b0
  rotate_left
  · have hle : 4 ≤ n := by have := hs0 rfl; simpa [cmt] using this
    by_cases hz : z0 = 0
    · subst hz
      obtain ⟨rfl, rfl⟩ : K = 8 ∧ N = 1 := by simp at hKN; exact ⟨hKN.1.symm, hKN.2.symm⟩
      clear hKN hs0 hs1 hs2
      go_enter Try.func29, Try.ntmps29
      go_wp2_with fail
      have q := Kept.refl w
      refine (C0.out _ q).mono ?_
      rintro e w1 ⟨rfl, h1⟩
      have q := q.trans h1
      have hc1 := q.cell hc'
      go_wp2_with fail
      refine (U0.out hle _ q).mono ?_
      rintro e w1 ⟨rfl, h1⟩
      have q := q.trans h1
      have hc1 := q.cell hc'
      go_wp2_with fail
      go_ret2
      exact ⟨rfl, q⟩
    
    · have hzi : ¬ ((z0 : Int) = 0) := by omega
      obtain ⟨rfl, rfl⟩ : K = 12 ∧ N = z0 := by simp [hz] at hKN; exact ⟨hKN.1.symm, hKN.2.symm⟩
      clear hKN hs0 hs1 hs2
      go_enter Try.func29, Try.ntmps29
      go_wp2_with fail
      have q := Kept.refl w
      refine (C0.out _ q).mono ?_
      rintro e w1 ⟨rfl, h1⟩
      have q := q.trans h1
      have hc1 := q.cell hc'
      go_wp2_with fail
      refine (U0.out hle _ q).mono ?_
      rintro e w1 ⟨rfl, h1⟩
      have q := q.trans h1
      have hc1 := q.cell hc'
      go_wp2_with fail
      go_ret2
      exact ⟨rfl, q⟩
  · skip
    cases b1
    rotate_left
    · have hle : 2 ≤ n := by have := hs1 rfl; simpa [pis] using this
      by_cases hz : z1 = 0
      · subst hz
        obtain ⟨rfl, rfl⟩ : K = 8 ∧ N = 1 := by simp at hKN; exact ⟨hKN.1.symm, hKN.2.symm⟩
        clear hKN hs0 hs1 hs2
        go_enter Try.func29, Try.ntmps29
        go_wp2_with fail
        have q := Kept.refl w
        refine (C0.out _ q).mono ?_
        rintro e w1 ⟨rfl, h1⟩
        have q := q.trans h1
        have hc1 := q.cell hc'
        go_wp2_with fail
        refine (C1.out _ q).mono ?_
        rintro e w1 ⟨rfl, h1⟩
        have q := q.trans h1
        have hc1 := q.cell hc'
        go_wp2_with fail
        refine (U1.out hle _ q).mono ?_
        rintro e w1 ⟨rfl, h1⟩
        have q := q.trans h1
        have hc1 := q.cell hc'
        go_wp2_with fail
        go_ret2
        exact ⟨rfl, q⟩
      
      · have hzi : ¬ ((z1 : Int) = 0) := by omega
        obtain ⟨rfl, rfl⟩ : K = 13 ∧ N = z1 := by simp [hz] at hKN; exact ⟨hKN.1.symm, hKN.2.symm⟩
        clear hKN hs0 hs1 hs2
        go_enter Try.func29, Try.ntmps29
        go_wp2_with fail
        have q := Kept.refl w
        refine (C0.out _ q).mono ?_
        rintro e w1 ⟨rfl, h1⟩
        have q := q.trans h1
        have hc1 := q.cell hc'
        go_wp2_with fail
        refine (C1.out _ q).mono ?_
        rintro e w1 ⟨rfl, h1⟩
        have q := q.trans h1
        have hc1 := q.cell hc'
        go_wp2_with fail
        refine (U1.out hle _ q).mono ?_
        rintro e w1 ⟨rfl, h1⟩
        have q := q.trans h1
        have hc1 := q.cell hc'
        go_wp2_with fail
        go_ret2
        exact ⟨rfl, q⟩
    · skip
      cases b2
      rotate_left
      · skip
        by_cases hz : z2 = 0
        · subst hz
          obtain ⟨rfl, rfl⟩ : K = 8 ∧ N = 1 := by simp at hKN; exact ⟨hKN.1.symm, hKN.2.symm⟩
          clear hKN hs0 hs1 hs2
          go_enter Try.func29, Try.ntmps29
          go_wp2_with fail
          have q := Kept.refl w
          refine (C0.out _ q).mono ?_
          rintro e w1 ⟨rfl, h1⟩
          have q := q.trans h1
          have hc1 := q.cell hc'
          go_wp2_with fail
          refine (C1.out _ q).mono ?_
          rintro e w1 ⟨rfl, h1⟩
          have q := q.trans h1
          have hc1 := q.cell hc'
          go_wp2_with fail
          refine (C2.out _ q).mono ?_
          rintro e w1 ⟨rfl, h1⟩
          have q := q.trans h1
          have hc1 := q.cell hc'
          go_wp2_with fail
          refine (U2.out _ q).mono ?_
          rintro e w1 ⟨rfl, h1⟩
          have q := q.trans h1
          have hc1 := q.cell hc'
          go_wp2_with fail
          go_ret2
          exact ⟨rfl, q⟩
        
        · have hzi : ¬ ((z2 : Int) = 0) := by omega
          obtain ⟨rfl, rfl⟩ : K = 11 ∧ N = z2 := by simp [hz] at hKN; exact ⟨hKN.1.symm, hKN.2.symm⟩
          clear hKN hs0 hs1 hs2
          go_enter Try.func29, Try.ntmps29
          go_wp2_with fail
          have q := Kept.refl w
          refine (C0.out _ q).mono ?_
          rintro e w1 ⟨rfl, h1⟩
          have q := q.trans h1
          have hc1 := q.cell hc'
          go_wp2_with fail
          refine (C1.out _ q).mono ?_
          rintro e w1 ⟨rfl, h1⟩
          have q := q.trans h1
          have hc1 := q.cell hc'
          go_wp2_with fail
          refine (C2.out _ q).mono ?_
          rintro e w1 ⟨rfl, h1⟩
          have q := q.trans h1
          have hc1 := q.cell hc'
          go_wp2_with fail
          refine (U2.out _ q).mono ?_
          rintro e w1 ⟨rfl, h1⟩
          have q := q.trans h1
          have hc1 := q.cell hc'
          go_wp2_with fail
          go_ret2
          exact ⟨rfl, q⟩
      · skip
        by_cases h37 : x = 37
        · subst h37
          by_cases hz : z3 = 0
          · subst hz
            obtain ⟨rfl, rfl⟩ : K = 8 ∧ N = 1 := by simp at hKN; exact ⟨hKN.1.symm, hKN.2.symm⟩
            clear hKN hs0 hs1 hs2
            go_enter Try.func29, Try.ntmps29
            go_wp2_with fail
            have q := Kept.refl w
            refine (C0.out _ q).mono ?_
            rintro e w1 ⟨rfl, h1⟩
            have q := q.trans h1
            have hc1 := q.cell hc'
            go_wp2_with fail
            refine (C1.out _ q).mono ?_
            rintro e w1 ⟨rfl, h1⟩
            have q := q.trans h1
            have hc1 := q.cell hc'
            go_wp2_with fail
            refine (C2.out _ q).mono ?_
            rintro e w1 ⟨rfl, h1⟩
            have q := q.trans h1
            have hc1 := q.cell hc'
            go_wp2_with fail
            refine (U3.out (by trivial) _ q).mono ?_
            rintro e w1 ⟨rfl, h1⟩
            have q := q.trans h1
            have hc1 := q.cell hc'
            go_wp2_with fail
            go_ret2
            exact ⟨rfl, q⟩
          
          · have hzi : ¬ ((z3 : Int) = 0) := by omega
            obtain ⟨rfl, rfl⟩ : K = 14 ∧ N = z3 := by simp [hz] at hKN; exact ⟨hKN.1.symm, hKN.2.symm⟩
            clear hKN hs0 hs1 hs2
            go_enter Try.func29, Try.ntmps29
            go_wp2_with fail
            have q := Kept.refl w
            refine (C0.out _ q).mono ?_
            rintro e w1 ⟨rfl, h1⟩
            have q := q.trans h1
            have hc1 := q.cell hc'
            go_wp2_with fail
            refine (C1.out _ q).mono ?_
            rintro e w1 ⟨rfl, h1⟩
            have q := q.trans h1
            have hc1 := q.cell hc'
            go_wp2_with fail
            refine (C2.out _ q).mono ?_
            rintro e w1 ⟨rfl, h1⟩
            have q := q.trans h1
            have hc1 := q.cell hc'
            go_wp2_with fail
            refine (U3.out (by trivial) _ q).mono ?_
            rintro e w1 ⟨rfl, h1⟩
            have q := q.trans h1
            have hc1 := q.cell hc'
            go_wp2_with fail
            go_ret2
            exact ⟨rfl, q⟩
        · have d37 : (x == 37) = false := by simpa using h37
          have H37 := Lib.hid h37
          clear h37
          by_cases hz : z4 = 0
          · subst hz
            obtain ⟨rfl, rfl⟩ : K = 8 ∧ N = 1 := by simp [H37.out] at hKN; exact ⟨hKN.1.symm, hKN.2.symm⟩
            clear hKN hs0 hs1 hs2
            go_enter Try.func29, Try.ntmps29
            go_wp2_with fail
            have q := Kept.refl w
            refine (C0.out _ q).mono ?_
            rintro e w1 ⟨rfl, h1⟩
            have q := q.trans h1
            have hc1 := q.cell hc'
            go_wp2_with fail
            refine (C1.out _ q).mono ?_
            rintro e w1 ⟨rfl, h1⟩
            have q := q.trans h1
            have hc1 := q.cell hc'
            go_wp2_with fail
            refine (C2.out _ q).mono ?_
            rintro e w1 ⟨rfl, h1⟩
            have q := q.trans h1
            have hc1 := q.cell hc'
            go_wp2_with fail
            refine (U4.out _ q).mono ?_
            rintro e w1 ⟨rfl, h1⟩
            have q := q.trans h1
            have hc1 := q.cell hc'
            go_wp2_with fail
            go_ret2
            exact ⟨rfl, q⟩
          
          · have hzi : ¬ ((z4 : Int) = 0) := by omega
            obtain ⟨rfl, rfl⟩ : K = 3 ∧ N = z4 := by simp [hz, H37.out] at hKN; exact ⟨hKN.1.symm, hKN.2.symm⟩
            clear hKN hs0 hs1 hs2
            go_enter Try.func29, Try.ntmps29
            go_wp2_with fail
            have q := Kept.refl w
            refine (C0.out _ q).mono ?_
            rintro e w1 ⟨rfl, h1⟩
            have q := q.trans h1
            have hc1 := q.cell hc'
            go_wp2_with fail
            refine (C1.out _ q).mono ?_
            rintro e w1 ⟨rfl, h1⟩
            have q := q.trans h1
            have hc1 := q.cell hc'
            go_wp2_with fail
            refine (C2.out _ q).mono ?_
            rintro e w1 ⟨rfl, h1⟩
            have q := q.trans h1
            have hc1 := q.cell hc'
            go_wp2_with fail
            refine (U4.out _ q).mono ?_
            rintro e w1 ⟨rfl, h1⟩
            have q := q.trans h1
            have hc1 := q.cell hc'
            go_wp2_with fail
            go_ret2
            exact ⟨rfl, q⟩

theorem dwords_any (A : Option Addr) (n c : Nat) (l : List Int) (f t : Int) (w : World) (h : Sl w 1 A n c (l.map (Value.int .i32))) (hn : n ≤ 1000000) :
    Calls Try.prog 14 #[.slice A n c, .int .i64 f, .int .i64 t] w fun e w' => ∃ A' m c', m = (rowL wordF l f t).length ∧ e = .returned (.slice A' m c') ∧ Sl w' 3 A' m c' ((rowL wordF l f t).flatMap prtC) ∧ Kept w w' := by
  have hcap := h.cap
  have hmax := h.max
  have hl := h.llen1
  have hin := fun w' => din_any A n c f t w'
  by_cases hbad : f < 0 ∨ t < f ∨ (l.length : Int) < t
  · have HV : Hid (rowL wordF l f t = []) := by unfold Hid rowL; rw [if_pos hbad]
    rw [hl] at hbad
    rw [show decide (0 ≤ f ∧ f ≤ t ∧ t ≤ n) = false from decide_eq_false (by omega)] at hin
    have HI := Lib.hid hin
    clear hbad hin
    go_enter Try.func14, Try.ntmps14
    go_wp2_with fail
    refine (HI.out _).mono ?_
    rintro e w1 ⟨rfl, rfl⟩
    go_wp2_with fail
    go_ret
    exact ⟨none, 0, 0, by rw [HV.out]; rfl, rfl, by rw [HV.out]; exact Sl.nil_, Kept.refl _⟩
  · have hv : rowL wordF l f t = chainX wordF f ((l.take t.toNat).drop f.toNat) := by unfold rowL; rw [if_neg hbad]
    rw [hl] at hbad
    rw [show decide (0 ≤ f ∧ f ≤ t ∧ t ≤ n) = true from decide_eq_true (by omega)] at hin
    have HI := Lib.hid hin
    clear hin
    obtain ⟨F, rfl⟩ := Int.eq_ofNat_of_zero_le (show 0 ≤ f by omega)
    obtain ⟨T, rfl⟩ := Int.eq_ofNat_of_zero_le (show 0 ≤ t by omega)
    rw [Int.toNat_natCast, Int.toNat_natCast] at hv
    have hFT : F ≤ T := by omega
    have hTn : T ≤ n := by omega
    have HV := Lib.hid hv
    have HL := Lib.hid hl
    clear hv hl hbad
    go_enter Try.func14, Try.ntmps14
    go_wp2_with fail
    refine (HI.out _).mono ?_
    rintro e w1 ⟨rfl, rfl⟩
    go_wp2_with fail
    go_loopw [7, 8] (fun o at_ wr => ∃ (k : Nat) (P : List Prt), F ≤ k ∧ k ≤ T ∧ at_ = .int .i64 k ∧ wr.ownsRow w.heap.size 32 3 o P.length (P.flatMap prtC) ∧ Kept w wr ∧ P.length ≤ k ∧
      Hid (chainX wordF F ((l.take T).drop F) = P ++ chainX wordF k ((l.take T).drop k))) (fun _ i _ => T - (intOf i).toNat)
    case atStart => exact ⟨F, [], Nat.le_refl _, hFT, rfl, World.ownsRow_nil _ _ _ _, Kept.refl _, Nat.zero_le _, by simp [Hid]⟩
    case round =>
      obtain ⟨k, P, hFk, hkT, rfl, hown, hkept, hPk, hinv⟩ := hrel
      by_cases hlt : k < T
      · have hsl := h.cut1 (i := k) (m := T) (by omega) hTn
        have hcut := run_cut_lh appT_runes A n c k T (by omega) (by omega)
        rw [show (l.drop k).take (T - k) = (l.take T).drop k by rw [List.drop_take]] at hsl
        obtain ⟨A2, hA2⟩ : ∃ A2, A2 = cutA A c k 1 := ⟨_, rfl⟩
        rw [← hA2] at hcut hsl
        clear hA2
        have hne : (l.take T).drop k ≠ [] := by
          have := HL.out
          intro e
          have := congrArg List.length e
          simp at this
          omega
        have HS := Lib.hid (chainX_cons wordF_bd k ((l.take T).drop k) hne)
        have hbd := wordF_bd ((l.take T).drop k) hne
        have hlen : ((l.take T).drop k).length = T - k := by have := HL.out; simp; omega
        rw [hlen] at hbd
        clear hne hlen
        obtain ⟨K, N, hKN⟩ : ∃ K N, wordF ((l.take T).drop k) = (K, N) := ⟨_, _, rfl⟩
        have HW := Lib.hid (dword_any A2 (T - k) (c - k) ((l.take T).drop k) wr (hsl.kept hkept) (by omega) (by omega))
        rw [hKN] at hbd HS HW
        obtain ⟨hb1, hb2⟩ := hbd
        dsimp only at hb1 hb2 HS HW
        clear hKN hsl
        go_wp2_with fail
        refine HW.out.mono ?_
        rintro e w1 ⟨rfl, hk1⟩
        have hk2 := hkept.trans hk1
        have hown1 := own_kept hown hk1
        go_wp2_with (at_builtin; refine wpList_push w (by rfl) _ _ (by rfl) appT_dprt (by rfl) hown1 hk2 (by rfl) ?_ ?_; (exact ⟨by simp, rfl, rfl, by omega⟩); intro v' w' hown' hk' _ _)
        go_roundw
        case rel => exact ⟨k + N, P ++ [⟨K, k, k + N⟩], by omega, by omega, by go_num, by simpa [prtC] using hown', hk', by simp; omega, by
          unfold Hid
          rw [hinv.out, HS.out, List.drop_drop]
          simp⟩
        case measure => simp [intOf]; omega
      · obtain rfl : k = T := by omega
        have HE : Hid (rowL wordF l F k = P) := by
          have := HL.out
          unfold Hid
          rw [HV.out, hinv.out, List.drop_eq_nil_of_le (by simp; omega), chainX_nil, List.append_nil]
        obtain ⟨A', c', rfl, hsl⟩ := Sl.of_own hown
        go_wp2_with fail
        go_ret
        exact ⟨A', P.length, c', by rw [HE.out], rfl, by rw [HE.out]; exact hsl, hkept⟩

theorem ditems_any (A : Option Addr) (n c : Nat) (l : List Int) (f t : Int) (w : World) (h : Sl w 1 A n c (l.map (Value.int .i32))) (hn : n ≤ 1000000) :
    Calls Try.prog 12 #[.slice A n c, .int .i64 f, .int .i64 t] w fun e w' => ∃ A' m c', m = (rowL itemF l f t).length ∧ e = .returned (.slice A' m c') ∧ Sl w' 3 A' m c' ((rowL itemF l f t).flatMap prtC) ∧ Kept w w' := by
  have hcap := h.cap
  have hmax := h.max
  have hl := h.llen1
  have hin := fun w' => din_any A n c f t w'
  by_cases hbad : f < 0 ∨ t < f ∨ (l.length : Int) < t
  · have HV : Hid (rowL itemF l f t = []) := by unfold Hid rowL; rw [if_pos hbad]
    rw [hl] at hbad
    rw [show decide (0 ≤ f ∧ f ≤ t ∧ t ≤ n) = false from decide_eq_false (by omega)] at hin
    have HI := Lib.hid hin
    clear hbad hin
    go_enter Try.func12, Try.ntmps12
    go_wp2_with fail
    refine (HI.out _).mono ?_
    rintro e w1 ⟨rfl, rfl⟩
    go_wp2_with fail
    go_ret
    exact ⟨none, 0, 0, by rw [HV.out]; rfl, rfl, by rw [HV.out]; exact Sl.nil_, Kept.refl _⟩
  · have hv : rowL itemF l f t = chainX itemF f ((l.take t.toNat).drop f.toNat) := by unfold rowL; rw [if_neg hbad]
    rw [hl] at hbad
    rw [show decide (0 ≤ f ∧ f ≤ t ∧ t ≤ n) = true from decide_eq_true (by omega)] at hin
    have HI := Lib.hid hin
    clear hin
    obtain ⟨F, rfl⟩ := Int.eq_ofNat_of_zero_le (show 0 ≤ f by omega)
    obtain ⟨T, rfl⟩ := Int.eq_ofNat_of_zero_le (show 0 ≤ t by omega)
    rw [Int.toNat_natCast, Int.toNat_natCast] at hv
    have hFT : F ≤ T := by omega
    have hTn : T ≤ n := by omega
    have HV := Lib.hid hv
    have HL := Lib.hid hl
    clear hv hl hbad
    go_enter Try.func12, Try.ntmps12
    go_wp2_with fail
    refine (HI.out _).mono ?_
    rintro e w1 ⟨rfl, rfl⟩
    go_wp2_with fail
    go_loopw [7, 8] (fun o at_ wr => ∃ (k : Nat) (P : List Prt), F ≤ k ∧ k ≤ T ∧ at_ = .int .i64 k ∧ wr.ownsRow w.heap.size 32 3 o P.length (P.flatMap prtC) ∧ Kept w wr ∧ P.length ≤ k ∧
      Hid (chainX itemF F ((l.take T).drop F) = P ++ chainX itemF k ((l.take T).drop k))) (fun _ i _ => T - (intOf i).toNat)
    case atStart => exact ⟨F, [], Nat.le_refl _, hFT, rfl, World.ownsRow_nil _ _ _ _, Kept.refl _, Nat.zero_le _, by simp [Hid]⟩
    case round =>
      obtain ⟨k, P, hFk, hkT, rfl, hown, hkept, hPk, hinv⟩ := hrel
      by_cases hlt : k < T
      · have hsl := h.cut1 (i := k) (m := T) (by omega) hTn
        have hcut := run_cut_lh appT_runes A n c k T (by omega) (by omega)
        rw [show (l.drop k).take (T - k) = (l.take T).drop k by rw [List.drop_take]] at hsl
        obtain ⟨A2, hA2⟩ : ∃ A2, A2 = cutA A c k 1 := ⟨_, rfl⟩
        rw [← hA2] at hcut hsl
        clear hA2
        have hne : (l.take T).drop k ≠ [] := by
          have := HL.out
          intro e
          have := congrArg List.length e
          simp at this
          omega
        have HS := Lib.hid (chainX_cons itemF_bd k ((l.take T).drop k) hne)
        have hbd := itemF_bd ((l.take T).drop k) hne
        have hlen : ((l.take T).drop k).length = T - k := by have := HL.out; simp; omega
        rw [hlen] at hbd
        clear hne hlen
        obtain ⟨K, N, hKN⟩ : ∃ K N, itemF ((l.take T).drop k) = (K, N) := ⟨_, _, rfl⟩
        have HW := Lib.hid (ditem_any A2 (T - k) (c - k) ((l.take T).drop k) wr (hsl.kept hkept) (by omega) (by omega))
        rw [hKN] at hbd HS HW
        obtain ⟨hb1, hb2⟩ := hbd
        dsimp only at hb1 hb2 HS HW
        clear hKN hsl
        go_wp2_with fail
        refine HW.out.mono ?_
        rintro e w1 ⟨rfl, hk1⟩
        have hk2 := hkept.trans hk1
        have hown1 := own_kept hown hk1
        go_wp2_with (at_builtin; refine wpList_push w (by rfl) _ _ (by rfl) appT_dprt (by rfl) hown1 hk2 (by rfl) ?_ ?_; (exact ⟨by simp, rfl, rfl, by omega⟩); intro v' w' hown' hk' _ _)
        go_roundw
        case rel => exact ⟨k + N, P ++ [⟨K, k, k + N⟩], by omega, by omega, by go_num, by simpa [prtC] using hown', hk', by simp; omega, by
          unfold Hid
          rw [hinv.out, HS.out, List.drop_drop]
          simp⟩
        case measure => simp [intOf]; omega
      · obtain rfl : k = T := by omega
        have HE : Hid (rowL itemF l F k = P) := by
          have := HL.out
          unfold Hid
          rw [HV.out, hinv.out, List.drop_eq_nil_of_le (by simp; omega), chainX_nil, List.append_nil]
        obtain ⟨A', c', rfl, hsl⟩ := Sl.of_own hown
        go_wp2_with fail
        go_ret
        exact ⟨A', P.length, c', by rw [HE.out], rfl, by rw [HE.out]; exact hsl, hkept⟩

theorem passF_at {l : List Int} {k : Nat} {x : Int} (h : l[k]? = some x) : passF (l.drop k) = if startsF cmt (l.drop k) then tillF 4 cmt2 (l.drop k) else if startsF pis (l.drop k) then tillF 2 pis2 (l.drop k) else if x = 60 then declS (l.drop k) else 1 := by
  unfold passF
  rw [List.getElem?_drop, Nat.add_zero, h]
  simp only [Option.some.injEq]
set_option maxHeartbeats 4000000 in
theorem dcloses_any (A : Option Addr) (n c : Nat) (l : List Int) (a : Nat) (w : World) (h : Sl w 1 A n c (l.map (Value.int .i32))) (hn : n ≤ 1000000) (ha : a ≤ n) :
    Calls Try.prog 42 #[.slice A n c, .int .i64 a] w fun e w' => e = .returned (.int .i64 ((a + closS (l.drop a) : Nat) : Int)) ∧ Kept w w' := by
  have hcap := h.cap
  have hmax := h.max
  have HL := Lib.hid h.llen1
  obtain ⟨R, hR⟩ : ∃ R, a + closS (l.drop a) = R := ⟨_, rfl⟩
  rw [hR]
  have HR := Lib.hid hR
  clear hR
  go_enter Try.func42, Try.ntmps42
  go_wp2_with fail
  go_loopw [1] (fun i wr => ∃ k : Nat, k ≤ n ∧ i = .int .i64 k ∧ Kept w wr ∧ Hid (R = k + closS (l.drop k))) (fun i _ => n - (intOf i).toNat)
  case atStart => exact ⟨a, ha, rfl, Kept.refl _, HR.out.symm⟩
  case round =>
    obtain ⟨k, hk, rfl, hkept, hinv⟩ := hrel
    by_cases hlt : k < n
    rotate_left
    · have HV := Lib.hid (show R = k by rw [hinv.out, List.drop_eq_nil_of_le (by have := HL.out; omega), closS_nil]; rfl)
      go_wp2_with fail
      go_ret
      exact ⟨ret_int (by rw [HV.out] <;> omega), hkept⟩
    obtain ⟨b, o, x, rfl, hx, hc, hbb⟩ := (h.kept hkept).oneb hlt
    have HX := Lib.hid hx
    by_cases h93 : x = 93
    · subst h93
      have HV := Lib.hid (show R = k by rw [hinv.out, closS_hit hx]; rfl)
      clear hx
      go_wp2_with fail
      go_ret
      exact ⟨ret_int (by rw [HV.out] <;> omega), hkept⟩
    have d93 : (x == 93) = false := by simpa using h93
    have g93 : (x != 93) = true := by simpa using h93
    have H93 := Lib.hid h93
    have hP := passF_at hx
    have hPle := passF_le (l.drop (k)) (by rw [drop_get hx]; simp)
    rw [List.length_drop, HL.out] at hPle
    have hcut : ∀ wv : World, (Instr.slice 22 (.slice (some ⟨b, o, none⟩) n c) (some (.int .i64 (k : Int))) none none).run Try.prog wv = .ok (.slice (cutA (some ⟨b, o, none⟩) c (k) 1) (n - (k)) (c - (k))) wv := run_cut_l appT_runes (some ⟨b, o, none⟩) n c (k) (by omega)
    have hsl := (h.kept hkept).from1 (i := k) (by omega)
    obtain ⟨CA, hCA⟩ : ∃ CA, cutA (some ⟨b, o, none⟩) c (k) 1 = CA := ⟨_, rfl⟩
    rw [hCA] at hcut hsl
    have hll : (l.drop (k)).length = n - (k) := by rw [List.length_drop, HL.out]
    have hc0 := fun w' (kk : Kept wr w') => starts_any (some ⟨b, o, none⟩) n c l (k) ⟨#[60, 33, 45, 45]⟩ w' ((h.kept hkept).kept kk) (by decide) (by decide) hn (by omega) (by decide)
    have hc1 := fun w' (kk : Kept wr w') => starts_any (some ⟨b, o, none⟩) n c l (k) ⟨#[60, 63]⟩ w' ((h.kept hkept).kept kk) (by decide) (by decide) hn (by omega) (by decide)
    rw [show strI ⟨#[60, 33, 45, 45]⟩ = cmt from rfl] at hc0
    rw [show strI ⟨#[60, 63]⟩ = pis from rfl] at hc1
    have hs0 := startsF_len (p := cmt) (s := l.drop (k))
    have hs1 := startsF_len (p := pis) (s := l.drop (k))
    rw [hll] at hs0 hs1
    have hu0 := fun (hle : 4 ≤ n - (k)) w' (kk : Kept wr w') => dtill_any CA (n - (k)) (c - (k)) (l.drop (k)) 4 ⟨#[45, 45, 62]⟩ w' (hsl.kept kk) (by decide) (by decide) (by omega) hle (by decide)
    have hu1 := fun (hle : 2 ≤ n - (k)) w' (kk : Kept wr w') => dtill_any CA (n - (k)) (c - (k)) (l.drop (k)) 2 ⟨#[63, 62]⟩ w' (hsl.kept kk) (by decide) (by decide) (by omega) hle (by decide)
    rw [show strI ⟨#[45, 45, 62]⟩ = cmt2 from rfl] at hu0
    rw [show strI ⟨#[63, 62]⟩ = pis2 from rfl] at hu1
    have hu2 := fun w' (kk : Kept wr w') => ddeclared_any CA (n - (k)) (c - (k)) (l.drop (k)) w' (hsl.kept kk) (by omega)
    clear hx hll hCA
    obtain ⟨D, hD⟩ : ∃ D, passF (l.drop (k)) = D := ⟨_, rfl⟩
    rw [hD] at hP hPle
    have HD := Lib.hid hD
    clear hD
    obtain ⟨b0, hb0⟩ : ∃ b, startsF cmt (l.drop (k)) = b := ⟨_, rfl⟩
    obtain ⟨b1, hb1⟩ : ∃ b, startsF pis (l.drop (k)) = b := ⟨_, rfl⟩
    rw [hb0] at hc0 hs0 hP
    rw [hb1] at hc1 hs1 hP
    obtain ⟨z0, hz0⟩ : ∃ z, tillF 4 cmt2 (l.drop (k)) = z := ⟨_, rfl⟩
    obtain ⟨z1, hz1⟩ : ∃ z, tillF 2 pis2 (l.drop (k)) = z := ⟨_, rfl⟩
    obtain ⟨z2, hz2⟩ : ∃ z, declS (l.drop (k)) = z := ⟨_, rfl⟩
    rw [hz0] at hu0 hP
    rw [hz1] at hu1 hP
    rw [hz2] at hu2 hP
    have C0 := Lib.hid hc0
    have C1 := Lib.hid hc1
    have U0 := Lib.hid hu0
    have U1 := Lib.hid hu1
    have U2 := Lib.hid hu2
    have hcx := hc
    clear hc0 hc1 hu0 hu1 hu2 hb0 hb1 hz0 hz1 hz2 h93 hsl
    have none_ : D = 0 → Hid (R = n) := fun e => by
      unfold Hid
      rw [hinv.out, closS_none HX.out H93.out (HD.out.trans e), HL.out]
      omega
    have some_ : D ≠ 0 → Hid (R = k + D + closS (l.drop (k + D))) := fun e => by
      unfold Hid
      rw [hinv.out, closS_on HX.out H93.out HD.out e, Nat.add_assoc]
    have NO := Lib.hid none_
    have YES := Lib.hid some_
    clear none_ some_
    cases b0
    rotate_left
    · have hle : 4 ≤ n - k := by have := hs0 rfl; simpa [cmt] using this
      obtain rfl : D = z0 := by simpa using hP
      clear hP hs0 hs1
      by_cases hz : D = 0
      · subst hz
        have HV := NO.out rfl
        go_wp2_with fail
        have q := Kept.refl wr
        refine (C0.out _ q).mono ?_
        rintro e w1 ⟨rfl, h1⟩
        have q := q.trans h1
        have hc1 := q.cell hcx
        go_wp2_with fail
        refine (U0.out hle _ q).mono ?_
        rintro e w1 ⟨rfl, h1⟩
        have q := q.trans h1
        have hc1 := q.cell hcx
        go_wp2_with fail
        go_ret
        exact ⟨ret_int (by rw [HV.out] <;> omega), hkept.trans q⟩
      · have hzi : ¬ ((D : Int) = 0) := by omega
        have HV := YES.out hz
        go_wp2_with fail
        have q := Kept.refl wr
        refine (C0.out _ q).mono ?_
        rintro e w1 ⟨rfl, h1⟩
        have q := q.trans h1
        have hc1 := q.cell hcx
        go_wp2_with fail
        refine (U0.out hle _ q).mono ?_
        rintro e w1 ⟨rfl, h1⟩
        have q := q.trans h1
        have hc1 := q.cell hcx
        go_wp2_with fail
        go_roundw
        case rel => exact ⟨k + D, by omega, by go_num, hkept.trans q, HV⟩
        case measure => simp [intOf]; omega
    cases b1
    rotate_left
    · have hle : 2 ≤ n - k := by have := hs1 rfl; simpa [pis] using this
      obtain rfl : D = z1 := by simpa using hP
      clear hP hs0 hs1
      by_cases hz : D = 0
      · subst hz
        have HV := NO.out rfl
        go_wp2_with fail
        have q := Kept.refl wr
        refine (C0.out _ q).mono ?_
        rintro e w1 ⟨rfl, h1⟩
        have q := q.trans h1
        have hc1 := q.cell hcx
        go_wp2_with fail
        refine (C1.out _ q).mono ?_
        rintro e w1 ⟨rfl, h1⟩
        have q := q.trans h1
        have hc1 := q.cell hcx
        go_wp2_with fail
        refine (U1.out hle _ q).mono ?_
        rintro e w1 ⟨rfl, h1⟩
        have q := q.trans h1
        have hc1 := q.cell hcx
        go_wp2_with fail
        go_ret
        exact ⟨ret_int (by rw [HV.out] <;> omega), hkept.trans q⟩
      · have hzi : ¬ ((D : Int) = 0) := by omega
        have HV := YES.out hz
        go_wp2_with fail
        have q := Kept.refl wr
        refine (C0.out _ q).mono ?_
        rintro e w1 ⟨rfl, h1⟩
        have q := q.trans h1
        have hc1 := q.cell hcx
        go_wp2_with fail
        refine (C1.out _ q).mono ?_
        rintro e w1 ⟨rfl, h1⟩
        have q := q.trans h1
        have hc1 := q.cell hcx
        go_wp2_with fail
        refine (U1.out hle _ q).mono ?_
        rintro e w1 ⟨rfl, h1⟩
        have q := q.trans h1
        have hc1 := q.cell hcx
        go_wp2_with fail
        go_roundw
        case rel => exact ⟨k + D, by omega, by go_num, hkept.trans q, HV⟩
        case measure => simp [intOf]; omega
    by_cases h60 : x = 60
    · subst h60
      obtain rfl : D = z2 := by simpa using hP
      clear hP hs0 hs1
      by_cases hz : D = 0
      · subst hz
        have HV := NO.out rfl
        go_wp2_with fail
        have q := Kept.refl wr
        refine (C0.out _ q).mono ?_
        rintro e w1 ⟨rfl, h1⟩
        have q := q.trans h1
        have hc1 := q.cell hcx
        go_wp2_with fail
        refine (C1.out _ q).mono ?_
        rintro e w1 ⟨rfl, h1⟩
        have q := q.trans h1
        have hc1 := q.cell hcx
        go_wp2_with fail
        refine (U2.out _ q).mono ?_
        rintro e w1 ⟨rfl, h1⟩
        have q := q.trans h1
        have hc1 := q.cell hcx
        go_wp2_with fail
        go_ret
        exact ⟨ret_int (by rw [HV.out] <;> omega), hkept.trans q⟩
      · have hzi : ¬ ((D : Int) = 0) := by omega
        have HV := YES.out hz
        go_wp2_with fail
        have q := Kept.refl wr
        refine (C0.out _ q).mono ?_
        rintro e w1 ⟨rfl, h1⟩
        have q := q.trans h1
        have hc1 := q.cell hcx
        go_wp2_with fail
        refine (C1.out _ q).mono ?_
        rintro e w1 ⟨rfl, h1⟩
        have q := q.trans h1
        have hc1 := q.cell hcx
        go_wp2_with fail
        refine (U2.out _ q).mono ?_
        rintro e w1 ⟨rfl, h1⟩
        have q := q.trans h1
        have hc1 := q.cell hcx
        go_wp2_with fail
        go_roundw
        case rel => exact ⟨k + D, by omega, by go_num, hkept.trans q, HV⟩
        case measure => simp [intOf]; omega
    · have d60 : (x == 60) = false := by simpa using h60
      obtain rfl : D = 1 := by simpa [h60] using hP
      clear hP hs0 hs1
      have HV := YES.out (by omega)
      go_wp2_with fail
      have q := Kept.refl wr
      refine (C0.out _ q).mono ?_
      rintro e w1 ⟨rfl, h1⟩
      have q := q.trans h1
      have hc1 := q.cell hcx
      go_wp2_with fail
      refine (C1.out _ q).mono ?_
      rintro e w1 ⟨rfl, h1⟩
      have q := q.trans h1
      have hc1 := q.cell hcx
      go_wp2_with fail
      go_roundw
      case rel => exact ⟨k + 1, by omega, by go_num, hkept.trans q, HV⟩
      case measure => simp [intOf]; omega
end Go.Proofs.Ytnfcfpcpfnhcnaa
