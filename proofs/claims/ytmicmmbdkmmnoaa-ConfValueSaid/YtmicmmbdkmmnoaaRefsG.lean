/- Layer 14: slices.Concat at runes; Plainly: walked. -/
import Derived.Test.YtmicmmbdkmmnoaaRefsF
namespace Go.Proofs.Ytmicmmbdkmmnoaa
open Go.RowKit
attribute [local go_sem ↓] Go.wp_at_zero Go.wp_at_succ

set_option maxRecDepth 8000 in
theorem growRunes_any (n : Nat) (hn : n ≤ 4294967296) (w : World) :
    Calls Try.prog 56 #[.slice none 0 0, .int .i64 n] w fun e w' => ∃ v, e = .returned v ∧ w'.ownsRow w.heap.size 21 1 v 0 [] ∧ Kept w w' := by
  by_cases h0 : n = 0
  · subst h0
    have hcut := fun w => run_cut_h appT_runes none 0 0 0 (Nat.le_refl _) w
    go_enter Try.func56, Try.ntmps56
    go_wp2
    go_ret
    exact ⟨_, rfl, World.ownsRow_nil _ _ _ _, Kept.refl _⟩
  · obtain ⟨cap, cur, hge, hmax, hcs, hrun⟩ := run_zeros (ty := 36) appT_runes Try.underlying3 w n (by omega) hn
    have HCS := Lib.hid hcs
    clear hcs
    have hcut := fun wx => run_cut_h appT_runes (some ⟨w.heap.size, 0, none⟩) n cap 0 (Nat.zero_le _) wx
    have hcut0 := fun wx => run_cut_h appT_runes none 0 0 0 (Nat.le_refl _) wx
    go_enter Try.func56, Try.ntmps56
    go_wp2_with (at_builtin; refine Lib.wpList_append_run _ (by rfl) _ _ _ _ (by rfl) _ _ (by rfl) (by rfl) _ _ hrun ?_)
    go_ret
    exact ⟨_, rfl, (own_row (Nat.le_refl _) hmax HCS.out).drew, ((Kept.refl _).alloc _).drew⟩

/-- Slices, and what each holds. -/
def PartsRunes (w : World) (l : List ((Option Addr × Nat × Nat) × List Value)) : Prop := ∀ p ∈ l, Sl w 1 p.1.1 p.1.2.1 p.1.2.2 p.2 ∧ p.2.all (fun u => u.oneCell') = true
def plen (l : List ((Option Addr × Nat × Nat) × List Value)) : Nat := (l.map fun p => p.1.2.1).sum
def pcell (p : (Option Addr × Nat × Nat) × List Value) : Value := .slice p.1.1 p.1.2.1 p.1.2.2
theorem plen_step {l : List ((Option Addr × Nat × Nat) × List Value)} {k : Nat} {p} (h : l[k]? = some p) : plen (l.take (k + 1)) = plen (l.take k) + p.1.2.1 := by
  unfold plen
  rw [List.take_add_one, h]
  simp
theorem plen_le (l : List ((Option Addr × Nat × Nat) × List Value)) (k : Nat) : plen (l.take k) ≤ plen l := by
  conv => rhs; rw [← List.take_append_drop k l]
  unfold plen
  rw [List.map_append, List.sum_append]
  exact Nat.le_add_right _ _
theorem concatRunes_any (A : Option Addr) (n c : Nat) (l : List ((Option Addr × Nat × Nat) × List Value)) (w : World) (h : Sl w 1 A n c (l.map pcell)) (hp : PartsRunes w l) (hn : plen l ≤ 4294967296) :
    Calls Try.prog 41 #[.slice A n c] w fun e w' => ∃ v, e = .returned v ∧ w'.ownsRow w.heap.size 21 1 v (plen l) (l.flatMap (·.2)) ∧ Kept w w' := by
  have hmax := h.max
  have hcap := h.cap
  have HL := Lib.hid h.llen1
  have HP := Lib.hid hp
  clear hp
  go_enter Try.func41, Try.ntmps41
  go_wp2
  go_loop [3, 11] (fun s i => ∃ k : Nat, k ≤ n ∧ i = .int .i64 k ∧ s = .int .i64 (plen (l.take k))) (fun _ i => n - (intOf i).toNat)
  case atStart => exact ⟨0, Nat.zero_le _, rfl, rfl⟩
  case round =>
    obtain ⟨k, hk, rfl, rfl⟩ := hrel
    have hle := plen_le l k
    by_cases hlt : k < n
    · obtain ⟨b, o, x, rfl, hx, hc, hb⟩ := h.oneb hlt
      have hle1 := plen_le l (k + 1)
      have HS := Lib.hid (plen_step hx)
      have hle2 : plen (l.take k) + x.1.2.1 ≤ 4294967296 := by rw [← HS.out]; omega
      have hc' : w.cell? ⟨b, o + k, none⟩ = some (.slice x.1.1 x.1.2.1 x.1.2.2) := hc
      clear hx hc hle1
      go_wp2
      go_round
      case rel => exact ⟨k + 1, by omega, by go_num, by rw [HS.out]; go_num⟩
      case measure => simp [intOf]; omega
    · obtain rfl : k = n := by omega
      have HT : Hid (plen (l.take k) = plen l) := by
        have := HL.out
        unfold Hid
        rw [List.take_of_length_le (by omega)]
      have hT := HT.out
      rw [hT]
      clear hT
      go_wp2_with fail
      refine (growRunes_any _ hn _).mono ?_
      rintro e w1 ⟨v, rfl, hown, hkept⟩
      go_wp2
      go_loopw [6, 27] (fun o i wr => ∃ m : Nat, m ≤ k ∧ i = .int .i64 m ∧ wr.ownsRow w.heap.size 21 1 o (plen (l.take m)) ((l.take m).flatMap (·.2)) ∧ Kept w wr) (fun _ i _ => k - (intOf i).toNat)
      case atStart => exact ⟨0, Nat.zero_le _, rfl, hown, hkept⟩
      case round =>
        obtain ⟨m, hm, rfl, hown1, hkept1⟩ := hrel
        by_cases hlt1 : m < k
        · obtain ⟨b, o, x, rfl, hx, hc, hb⟩ := (h.kept hkept1).oneb hlt1
          have hle1 := plen_le l (m + 1)
          have HS := Lib.hid (plen_step hx)
          have hle2 : plen (l.take m) + x.1.2.1 ≤ 4294967296 := by rw [← HS.out]; omega
          have HF : Hid ((l.take (m + 1)).flatMap (·.2) = (l.take m).flatMap (·.2) ++ x.2) := by
            unfold Hid
            rw [List.take_add_one, hx]
            simp
          obtain ⟨hsx, hox⟩ := HP.out x (List.mem_of_getElem? hx)
          have hsx1 := hsx.kept hkept1
          have hc' : wr.cell? ⟨b, o + m, none⟩ = some (.slice x.1.1 x.1.2.1 x.1.2.2) := hc
          clear hx hc hle1 hsx
          go_wp2_with (at_builtin; refine wpList_appk w (by rfl) _ _ (by rfl) appT_runes (by rfl) hown1 hkept1 (by rfl) hsx1 ⟨hox, hle2⟩ ?_; intro v' w' hown' hk' _ _)
          go_roundw
          case rel => exact ⟨m + 1, by omega, by go_num, by rw [HS.out, HF.out]; exact hown', hk'⟩
          case measure => simp [intOf]; omega
        · obtain rfl : m = k := by omega
          have hT := HT.out
          have hL := HL.out
          rw [hT, List.take_of_length_le (by omega)] at hown1
          clear hT hL
          go_wp2
          go_ret
          exact ⟨_, rfl, hown1, hkept1⟩


theorem own_mono {w : World} {base base' : Nat} {e : TypeId} {size : Nat} {v : Value} {n : Nat} {xs : List Value} (h : w.ownsRow base' e size v n xs) (hb : base ≤ base') : w.ownsRow base e size v n xs := by
  obtain ⟨h1, h2⟩ := h
  refine ⟨h1, ?_⟩
  rcases h2 with h2 | ⟨g, cap, cur, rfl, b, r⟩
  · exact .inl h2
  · exact .inr ⟨g, cap, cur, rfl, Nat.le_trans hb b, r⟩
/-- What pieces mean, one behind the other. -/
def plainP (l : List Int) : List (Pc × Nat) → Option (List Int)
  | [] => some []
  | x :: xs => match meanF (l.drop x.2) x.1, plainP l xs with
    | some a, some b => some (a ++ b)
    | _, _ => none
theorem plainP_cons {l : List Int} {x : Pc × Nat} {xs : List (Pc × Nat)} {a : List Int} (h : meanF (l.drop x.2) x.1 = some a) : plainP l (x :: xs) = (plainP l xs).map (a ++ ·) := by
  rw [plainP, h]
  cases plainP l xs <;> rfl
theorem plainP_none {l : List Int} {x : Pc × Nat} {xs : List (Pc × Nat)} (h : meanF (l.drop x.2) x.1 = none) : plainP l (x :: xs) = none := by
  rw [plainP, h]
theorem plainP_eq (l : List Int) : ∀ (f a : Nat), l.length ≤ f + a → plainlyF (l.drop a) = plainP l (pcsX l a)
  | 0, a, h => by
    rw [pcsX_end (by omega), List.drop_eq_nil_of_le (by omega)]
    rfl
  | f + 1, a, h => by
    by_cases ha : a < l.length
    · have hne : l.drop a ≠ [] := by
        intro e
        have := congrArg List.length e
        rw [List.length_drop, List.length_nil] at this
        omega
      have h1 := pieceF_len hne
      rw [pcsX_cons ha, plainlyF_cons hne, List.drop_drop, plainP_eq l f _ (by omega)]
      rw [plainP]
      cases meanF (l.drop a) (pieceF (l.drop a)) <;> cases plainP l (pcsX l (a + (pieceF (l.drop a)).len)) <;> rfl
    · rw [pcsX_end ha, List.drop_eq_nil_of_le (by omega)]
      rfl
theorem pcsX_in (l : List Int) : ∀ (f a : Nat), l.length ≤ f + a → ∀ x ∈ pcsX l a, x.2 + x.1.len ≤ l.length
  | 0, a, h, x, hx => by
    rw [pcsX_end (by omega)] at hx
    cases hx
  | f + 1, a, h, x, hx => by
    by_cases ha : a < l.length
    · have hne : l.drop a ≠ [] := by
        intro e
        have := congrArg List.length e
        rw [List.length_drop, List.length_nil] at this
        omega
      have h1 := pieceF_len hne
      have h2 := pieceF_le hne
      rw [List.length_drop] at h2
      rw [pcsX_cons ha] at hx
      rcases List.mem_cons.1 hx with rfl | hx
      · dsimp only
        omega
      · exact pcsX_in l f _ (by omega) x hx
    · rw [pcsX_end ha] at hx
      cases hx
theorem pcsX_len (l : List Int) : (pcsX l 0).length ≤ l.length := by
  unfold pcsX
  rw [pos_len, List.drop_zero]
  exact pcsG_len _ _
def plainC (o : Option (List Int)) (w' : World) (e : Ending) : Prop := match o with
  | some P => ∃ VA VC, e = .returned (.tuple #[.slice VA P.length VC, .bool true]) ∧ Sl w' 1 VA P.length VC (P.map (Value.int .i32))
  | none => e = .returned (.tuple #[.slice none 0 0, .bool false])
set_option maxHeartbeats 8000000 in
theorem plainly_any (A : Option Addr) (n c : Nat) (l : List Int) (w : World) (h : Sl w 1 A n c (l.map (Value.int .i32))) (hn : n ≤ 10000) :
    Calls Try.prog 23 #[.slice A n c] w fun e w' => plainC (plainlyF l) w' e ∧ Kept w w' := by
  have hcap := h.cap
  have hmax := h.max
  have HL := Lib.hid h.llen1
  have hpl := plainP_eq l l.length 0 (by omega)
  rw [List.drop_zero] at hpl
  rw [hpl]
  have hlen := pcsX_len l
  have hins := pcsX_in l l.length 0 (by omega)
  rw [HL.out] at hlen hins
  go_enter Try.func23, Try.ntmps23
  go_wp2_with fail
  refine (pieces_any _ _ _ l _ h (by omega)).mono ?_
  rintro e w1 ⟨PA, PC, rfl, hP, k1⟩
  obtain ⟨P, hPe⟩ : ∃ P, pcsX l 0 = P := ⟨_, rfl⟩
  rw [hPe] at hP hlen hins ⊢
  have HPE := Lib.hid hPe
  clear hPe hpl
  obtain ⟨Q, hQ⟩ : ∃ Q, P.length = Q := ⟨_, rfl⟩
  rw [hQ] at hP hlen ⊢
  have HQ := Lib.hid hQ
  have HI := Lib.hid hins
  clear hQ hins
  have hPcap := hP.cap
  have hPmax := hP.max
  have hs1 := k1.size
  go_wp2_with fail
  go_loopw [4, 12] (fun v u wr => ∃ (k : Nat) (D : List Int) (VA : Option Addr) (VC : Nat), k ≤ Q ∧ u = .int .i64 k ∧ v = .slice VA D.length VC ∧ D.length ≤ k * 10000 ∧ wr.ownsRow w1.heap.size 21 1 (.slice VA D.length VC) D.length (D.map (Value.int .i32)) ∧ Kept w1 wr ∧ Hid (plainP l P = (plainP l (P.drop k)).map (D ++ ·)))
    (fun _ u _ => Q - (intOf u).toNat)
  case atStart => exact ⟨0, [], none, 0, Nat.zero_le _, rfl, rfl, Nat.zero_le _, World.ownsRow_nil _ _ _ _, Kept.refl _, by unfold Hid; rw [List.drop_zero]; cases plainP l P <;> rfl⟩
  case round =>
    obtain ⟨k, D, VA, VC, hkQ, rfl, rfl, hD, hown, hk, hinv⟩ := hrel
    by_cases hp : k < Q
    · obtain ⟨b, o, p, rfl, hpx, c0, c1, c2, c3, c4, hb⟩ := elem_pc (hP.kept hk) hp
      have hdr := drop_get hpx
      have hpin := HI.out p (List.mem_of_getElem? hpx)
      have l0 : (0 : Int) ≤ k := by omega
      have l1 : (k : Int) < Q := by omega
      obtain ⟨⟨pk, pl, pr, pn⟩, pa⟩ := p
      dsimp only at c0 c1 c2 c3 c4 hpin
      have hkn := fun w' => known_any pn w'
      obtain ⟨KF, hKF⟩ : ∃ z, knownF pn = z := ⟨_, rfl⟩
      rw [hKF] at hkn
      obtain ⟨RV, hRV⟩ : ∃ z, (if 0 ≤ KF then KF else 0) = z := ⟨_, rfl⟩
      obtain ⟨RB, hRB⟩ : ∃ z, decide (0 ≤ KF) = z := ⟨_, rfl⟩
      rw [hRV, hRB] at hkn
      have HKN := Lib.hid hkn
      clear hkn
      have hsz := hk.size
      have hT0 := Blk.new wr #[.int .i64 pk, .int .i64 pa, .int .i64 ((pa : Int) + pl), .int .i32 pr, .string pn] 73
      have hown1 := hown.alloc (.cells #[.int .i64 pk, .int .i64 pa, .int .i64 ((pa : Int) + pl), .int .i32 pr, .string pn] 73)
      have hk1 := hk.alloc (.cells #[.int .i64 pk, .int .i64 pa, .int .i64 ((pa : Int) + pl), .int .i32 pr, .string pn] 73)
      have hvb : (Value.slice VA D.length VC).ownBlock ≠ some wr.heap.size := by
        intro e
        have := hown.lt _ e
        omega
      by_cases e1 : pk = 1
      · subst e1
        have hmean : meanF (l.drop pa) ⟨1, pl, pr, pn⟩ = some ((l.drop pa).take pl) := rfl
        have hst : plainP l (P.drop k) = (plainP l (P.drop (k + 1))).map ((l.drop pa).take pl ++ ·) := by
          rw [hdr]
          exact plainP_cons hmean
        have HST := Lib.hid hst
        have hlt : ((l.drop pa).take pl).length = pl := by
          rw [List.length_take, List.length_drop, HL.out]
          omega
        have hcut := fun wx => run_cut_lh appT_runes A n c pa (pa + pl) (by omega) (by omega) wx
        rw [Int.natCast_add] at hcut
        have hcs := fun w' (hk' : Kept w w') => (h.kept hk').cut1 (i := pa) (m := pa + pl) (by omega) (by omega)
        rw [show pa + pl - pa = pl by omega] at hcut hcs
        obtain ⟨A2, hA2⟩ : ∃ z, cutA A c pa 1 = z := ⟨_, rfl⟩
        rw [hA2] at hcut hcs
        have HCS := Lib.hid hcs
        have q0 : (0 : Int) ≤ pa := by omega
        clear hcs hA2 hst hdr hpx hmean hRV hRB hKF
        go_wp2_with fail
        refine (HKN.out _).mono ?_
        rintro e wk ⟨rfl, rfl⟩
        go_wp2_with fail
        refine (concatRunes_any _ _ _ [((VA, D.length, VC), D.map (Value.int .i32)), ((A2, pl, c - pa), ((l.drop pa).take pl).map (Value.int .i32))] _ (Sl.litg (by simp) rfl (by omega)) ?_ ?_).mono ?_
        · intro p hp'
          have hkx := (k1.trans hk1).alloc (.cells #[.slice VA D.length VC, .slice A2 pl (c - pa)] 36)
          simp only [List.mem_cons, List.not_mem_nil, or_false] at hp'
          rcases hp' with rfl | rfl
          · obtain ⟨A3, c3, hVe, hV⟩ := own_sl ((hown1.alloc (.cells #[.slice VA D.length VC, .slice A2 pl (c - pa)] 36)))
            injection hVe with e1 e2 e3
            subst e1 e3
            exact ⟨hV, ints_one _ _⟩
          · exact ⟨HCS.out _ hkx, ints_one _ _⟩
        · simp [plen]
          omega
        rintro e wc ⟨v, rfl, hov, kc⟩
        have hkc := (hk1.alloc (.cells #[.slice VA D.length VC, .slice A2 pl (c - pa)] 36)).trans kc
        have hb1 := (hk1.alloc (.cells #[.slice VA D.length VC, .slice A2 pl (c - pa)] 36)).size
        have hov2 := own_mono hov hb1
        have hpl : plen [((VA, D.length, VC), D.map (Value.int .i32)), ((A2, pl, c - pa), ((l.drop pa).take pl).map (Value.int .i32))] = (D ++ (l.drop pa).take pl).length := by
          simp only [plen, List.map_cons, List.map_nil, List.sum_cons, List.sum_nil, List.length_append, hlt]
          omega
        have hfm : ([((VA, D.length, VC), D.map (Value.int .i32)), ((A2, pl, c - pa), ((l.drop pa).take pl).map (Value.int .i32))] : List ((Option Addr × Nat × Nat) × List Value)).flatMap (·.2) = (D ++ (l.drop pa).take pl).map (Value.int .i32) := by
          simp
        rw [hpl, hfm] at hov2
        obtain ⟨VA', VC', rfl, hVs⟩ := own_sl hov2
        clear hov kc hVs hpl hfm hown hown1
        go_wp2_with fail
        go_roundw
        case rel => exact ⟨k + 1, D ++ (l.drop pa).take pl, VA', VC', hp, by simp, by rw [List.length_append, hlt], by rw [List.length_append, hlt]; omega, hov2, hkc, by unfold Hid; rw [hinv.out, HST.out, Option.map_map]; congr 1; funext z; simp⟩
        case measure =>
          simp [intOf]
          omega
      by_cases e2 : pk = 2
      · subst e2
        have hmean : meanF (l.drop pa) ⟨2, pl, pr, pn⟩ = some [pr] := rfl
        have hst : plainP l (P.drop k) = (plainP l (P.drop (k + 1))).map ([pr] ++ ·) := by
          rw [hdr]
          exact plainP_cons hmean
        have HST := Lib.hid hst
        clear hst hdr hpx hmean hRV hRB hKF e1
        go_wp2_with fail
        refine (HKN.out _).mono ?_
        rintro e wk ⟨rfl, rfl⟩
        go_wp2_with (at_builtin; refine wpList_app (by rfl) _ _ (by rfl) appT_runes (by rfl) (hown1.alloc _) (by rfl) (Sl.litg (by simp) ?_ (by omega)) ?_ ?_ ?_ ?_; (exact rfl); (exact rfl); (omega); (simp; omega); (intro v' w' hown' hgr hob; obtain ⟨VA', VC', rfl, hVs⟩ := own_sl hown'))
        have hk3 : Kept w1 w' := (hk1.alloc _).grown hgr (fun k e => by have := hown1.lt k e; omega)
        clear hown hown1 hgr hob hVs
        go_roundw
        case rel =>
          have hl1 : (D ++ [pr]).length = D.length + 1 := by simp
          exact ⟨k + 1, D ++ [pr], VA', VC', hp, by simp, by rw [hl1], by rw [hl1]; omega, by rw [hl1, List.map_append]; exact hown', hk3, by unfold Hid; rw [hinv.out, HST.out, Option.map_map]; congr 1; funext z; simp⟩
        case measure =>
          simp [intOf]
          omega
      have d1k : (pk == 1) = false := by simpa using e1
      have d2k : (pk == 2) = false := by simpa using e2
      by_cases e3 : pk = 3 ∧ 0 ≤ KF
      · obtain ⟨rfl, hKF0⟩ := e3
        have hmean : meanF (l.drop pa) ⟨3, pl, pr, pn⟩ = some [KF] := by
          unfold meanF
          rw [if_neg (show ¬ (3 : Int) = 1 by decide), if_neg (show ¬ (3 : Int) = 2 by decide), if_pos ⟨rfl, by rw [hKF]; exact hKF0⟩, hKF]
        have hst : plainP l (P.drop k) = (plainP l (P.drop (k + 1))).map ([KF] ++ ·) := by
          rw [hdr]
          exact plainP_cons hmean
        have HST := Lib.hid hst
        obtain rfl : KF = RV := by rw [← hRV, if_pos hKF0]
        obtain rfl : true = RB := by rw [← hRB]; simpa using hKF0
        clear hst hdr hpx hmean hRV hRB hKF e1 e2
        go_wp2_with fail
        refine (HKN.out _).mono ?_
        rintro e wk ⟨rfl, rfl⟩
        go_wp2_with (at_builtin; refine wpList_app (by rfl) _ _ (by rfl) appT_runes (by rfl) (hown1.alloc _) (by rfl) (Sl.litg (by simp) ?_ (by omega)) ?_ ?_ ?_ ?_; (exact rfl); (exact rfl); (omega); (simp; omega); (intro v' w' hown' hgr hob; obtain ⟨VA', VC', rfl, hVs⟩ := own_sl hown'))
        have hk3 : Kept w1 w' := (hk1.alloc _).grown hgr (fun k e => by have := hown1.lt k e; omega)
        clear hown hown1 hgr hob hVs
        go_roundw
        case rel =>
          have hl1 : (D ++ [KF]).length = D.length + 1 := by simp
          exact ⟨k + 1, D ++ [KF], VA', VC', hp, by simp, by rw [hl1], by rw [hl1]; omega, by rw [hl1, List.map_append]; exact hown', hk3, by unfold Hid; rw [hinv.out, HST.out, Option.map_map]; congr 1; funext z; simp⟩
        case measure =>
          simp [intOf]
          omega
      · have hmean : meanF (l.drop pa) ⟨pk, pl, pr, pn⟩ = none := by
          unfold meanF
          rw [if_neg e1, if_neg e2, if_neg (by rw [hKF]; exact e3)]
        have hst : plainP l P = none := by
          rw [hinv.out, hdr, plainP_none hmean]
          rfl
        have HST := Lib.hid hst
        by_cases hk3 : pk = 3
        · obtain rfl : false = RB := by
            rw [← hRB]
            have : ¬ 0 ≤ KF := fun h => e3 ⟨hk3, h⟩
            simpa using this
          subst hk3
          clear hst hdr hpx hmean hRV hRB hKF e1 e2 e3 d1k d2k
          go_wp2_with fail
          refine (HKN.out _).mono ?_
          rintro e wk ⟨rfl, rfl⟩
          go_wp2_with fail
          refine bodyPost_ret (v := .tuple #[.slice none 0 0, .bool false]) ?_ rfl ⟨?_, k1.trans hk1⟩
          · simp [results, Try.results23, go_sem]
          · rw [HPE.out, HST.out]
            rfl
        · have d3k : (pk == 3) = false := by simpa using hk3
          clear hst hdr hpx hmean hRV hRB hKF e1 e2 e3 hk3
          go_wp2_with fail
          refine (HKN.out _).mono ?_
          rintro e wk ⟨rfl, rfl⟩
          go_wp2_with fail
          refine bodyPost_ret (v := .tuple #[.slice none 0 0, .bool false]) ?_ rfl ⟨?_, k1.trans hk1⟩
          · simp [results, Try.results23, go_sem]
          · rw [HPE.out, HST.out]
            rfl
    · have d1 : decide ((k : Int) < Q) = false := by simp; omega
      obtain ⟨A2, c2, hVe, hV⟩ := own_sl hown
      injection hVe with e1 e2 e3
      subst e1 e3
      have hfin : plainP l P = some D := by
        rw [hinv.out, List.drop_eq_nil_of_le (by have := HQ.out; omega)]
        simp [plainP]
      have HF := Lib.hid hfin
      clear hfin
      go_wp2_with fail
      refine bodyPost_ret (v := .tuple #[.slice VA D.length VC, .bool true]) ?_ rfl ⟨?_, k1.trans hk⟩
      · simp [results, Try.results23, go_sem]
      · rw [HPE.out, HF.out]
        exact ⟨VA, VC, rfl, hV⟩
end Go.Proofs.Ytmicmmbdkmmnoaa
