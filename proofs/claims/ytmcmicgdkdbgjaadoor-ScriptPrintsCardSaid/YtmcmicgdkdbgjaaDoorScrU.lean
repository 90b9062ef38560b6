/- The law ScriptParses: walked. -/
import Derived.Test.YtmcmicgdkdbgjaaDoorScrT
import Derived.Test.YtmcmicgdkdbgjaaDoorScrK
import Derived.BigQuiet
namespace Go.Proofs.YtmcmicgdkdbgjaaDoor
open Go.RowKit
attribute [local go_sem ↓] Go.wp_at_zero Go.wp_at_succ

set_option maxHeartbeats 2000000 in
theorem samep_any (A B : Option Addr) (n c d : Nat) (p : List Nat) (w : World) (h : Sl w 1 A n c (p.map natV)) (h' : Sl w 1 B n d (p.map natV)) :
    Calls Tryd.prog 27 #[.slice A n c, .slice B n d] w fun e w' => e = .returned (.bool true) ∧ Kept w w' := by
  have hcap := h.cap
  have hmax := h.max
  have hcap' := h'.cap
  have hmax' := h'.max
  have d0 : ((n : Int) != (n : Int)) = false := by simp
  go_enter Tryd.func27, Tryd.ntmps27
  go_wp2_with fail
  go_loopw [13] (fun i wr => ∃ k : Nat, k ≤ n ∧ i = .int .i64 k ∧ Kept w wr) (fun i _ => n - (intOf i).toNat)
  case atStart => exact ⟨0, Nat.zero_le _, rfl, Kept.refl _⟩
  case round =>
    obtain ⟨k, hk, rfl, hkp⟩ := hrel
    by_cases hlt : k < n
    · obtain ⟨b, o, x, rfl, hx, x0⟩ := (h.kept hkp).one hlt
      obtain ⟨b', o', x', rfl, hx', y0⟩ := (h'.kept hkp).one hlt
      obtain rfl : x = x' := by rw [hx] at hx'; exact Option.some.inj hx'
      have x1 : wr.cell? ⟨b, o + k, none⟩ = some (.int .i64 (x : Int)) := x0
      have y1 : wr.cell? ⟨b', o' + k, none⟩ = some (.int .i64 (x : Int)) := y0
      have l1 : (0 : Int) ≤ k := by omega
      have l2 : (k : Int) < n := by omega
      have d1 : ((x : Int) != (x : Int)) = false := by simp
      clear x0 y0 hx hx'
      go_wp2_with fail
      go_quiet (fail)
      go_wp2_with fail
      go_roundw
      case rel => exact ⟨k + 1, hlt, by go_num, hkp.drewN _⟩
      case measure =>
        simp [intOf]
        omega
    · obtain rfl : k = n := by omega
      go_wp2_with fail
      go_ret
      exact ⟨rfl, hkp⟩
set_option maxRecDepth 100000 in
set_option maxHeartbeats 4000000 in
theorem same_any (x y : Ov) (w : World) (hx : x.ok w) (hy : y.ok w) (h : x.st = y.st) :
    Calls Tryd.prog 13 #[.agg #[.int .i64 (x.k : Int), .slice x.A x.p.length x.c, .slice x.B x.q.length x.d, .int .i64 (x.n : Int), .string (strB x.a), .string (strB x.t)], .agg #[.int .i64 (y.k : Int), .slice y.A y.p.length y.c, .slice y.B y.q.length y.d, .int .i64 (y.n : Int), .string (strB y.a), .string (strB y.t)]] w fun e w' => e = .returned (.bool true) ∧ Kept w w' := by
  obtain ⟨k, A, c, p, B, d, q, n, a, t⟩ := x
  obtain ⟨k', A', c', p', B', d', q', n', a', t'⟩ := y
  simp only [Ov.st, St.mk.injEq] at h
  obtain ⟨rfl, rfl, rfl, rfl, rfl, rfl⟩ := h
  obtain ⟨hx1, hx2⟩ := hx
  obtain ⟨hy1, hy2⟩ := hy
  dsimp only at hx1 hx2 hy1 hy2 ⊢
  obtain ⟨m1, hm1⟩ : ∃ m, p.length = m := ⟨_, rfl⟩
  obtain ⟨m2, hm2⟩ : ∃ m, q.length = m := ⟨_, rfl⟩
  rw [hm1] at hx1 hy1 ⊢
  rw [hm2] at hx2 hy2 ⊢
  have H1 := Lib.hid (fun w' (hk : Kept w w') => samep_any A A' m1 c c' p w' (hx1.kept hk) (hy1.kept hk))
  have H2 := Lib.hid (fun w' (hk : Kept w w') => samep_any B B' m2 d d' q w' (hx2.kept hk) (hy2.kept hk))
  generalize strB a = a
  generalize strB t = t
  clear hm1 hm2 hx1 hx2 hy1 hy2
  have k0 : Kept w _ := ((Kept.refl w).alloc (.cells #[.int .i64 (k : Int), .slice A m1 c, .slice B m2 d, .int .i64 (n : Int), .string a, .string t] 37)).alloc (.cells #[.int .i64 (k : Int), .slice A' m1 c', .slice B' m2 d', .int .i64 (n : Int), .string a, .string t] 38)
  have b1 := (Blk.new w #[.int .i64 (k : Int), .slice A m1 c, .slice B m2 d, .int .i64 (n : Int), .string a, .string t] 37).alloc (.cells #[.int .i64 (k : Int), .slice A' m1 c', .slice B' m2 d', .int .i64 (n : Int), .string a, .string t] 38)
  have b2 := Blk.new (w.alloc (.cells #[.int .i64 (k : Int), .slice A m1 c, .slice B m2 d, .int .i64 (n : Int), .string a, .string t] 37)) #[.int .i64 (k : Int), .slice A' m1 c', .slice B' m2 d', .int .i64 (n : Int), .string a, .string t] 38
  go_enter Tryd.func13, Tryd.ntmps13
  go_upto_region 1 with fail
  generalize (w.alloc (.cells #[.int .i64 (k : Int), .slice A m1 c, .slice B m2 d, .int .i64 (n : Int), .string a, .string t] 37)).alloc (.cells #[.int .i64 (k : Int), .slice A' m1 c', .slice B' m2 d', .int .i64 (n : Int), .string a, .string t] 38) = w1 at k0 b1 b2 ⊢
  have b2' : Blk w1 (w.heap.size + 1) #[.int .i64 (k : Int), .slice A' m1 c', .slice B' m2 d', .int .i64 (n : Int), .string a, .string t] 38 := by simpa using b2
  clear b2
  obtain ⟨g1, hg1⟩ : ∃ g1, w.heap.size = g1 := ⟨_, rfl⟩
  obtain ⟨g2, hg2⟩ : ∃ g2, w.heap.size + 1 = g2 := ⟨_, rfl⟩
  rw [hg2] at b2' ⊢
  rw [hg1] at b1 ⊢
  clear hg1 hg2
  have HB1 := Lib.hid b1
  have HB2 := Lib.hid b2'
  have bc := Blk.cell b1
  have bd := Blk.cell b2'
  have x0 : w1.cell? ⟨g1, 0, none⟩ = some (.int .i64 (k : Int)) := bc 0
  have x1 : w1.cell? ⟨g1, 1, none⟩ = some (.slice A m1 c) := bc 1
  have y0 : w1.cell? ⟨g2, 0, none⟩ = some (.int .i64 (k : Int)) := bd 0
  have y1 : w1.cell? ⟨g2, 1, none⟩ = some (.slice A' m1 c') := bd 1
  clear bc bd b1 b2'
  go_wp2_with fail
  refine (H1.out _ k0).mono ?_
  rintro e w2 ⟨rfl, k2⟩
  have bc := Blk.cell (Blk.kept HB1.out k2)
  have bd := Blk.cell (Blk.kept HB2.out k2)
  have x2 : w2.cell? ⟨g1, 2, none⟩ = some (.slice B m2 d) := bc 2
  have y2 : w2.cell? ⟨g2, 2, none⟩ = some (.slice B' m2 d') := bd 2
  have k02 := k0.trans k2
  clear bc bd x0 x1 y0 y1
  go_wp2_with fail
  refine (H2.out _ k02).mono ?_
  rintro e w3 ⟨rfl, k3⟩
  have bc := Blk.cell (Blk.kept HB1.out (k2.trans k3))
  have bd := Blk.cell (Blk.kept HB2.out (k2.trans k3))
  have x3 : w3.cell? ⟨g1, 3, none⟩ = some (.int .i64 (n : Int)) := bc 3
  have x4 : w3.cell? ⟨g1, 4, none⟩ = some (.string a) := bc 4
  have x5 : w3.cell? ⟨g1, 5, none⟩ = some (.string t) := bc 5
  have y3 : w3.cell? ⟨g2, 3, none⟩ = some (.int .i64 (n : Int)) := bd 3
  have y4 : w3.cell? ⟨g2, 4, none⟩ = some (.string a) := bd 4
  have y5 : w3.cell? ⟨g2, 5, none⟩ = some (.string t) := bd 5
  have k03 := k02.trans k3
  clear bc bd x2 y2
  go_wp2_with fail
  go_ret
  exact ⟨rfl, k03⟩
theorem lines_ge : ∀ (ls : List Bs) (i k : Nat), linesF i ls = .error k → i ≤ k
  | [], i, k, h => by cases h
  | l :: ls, i, k, h => by
    rw [linesF] at h
    split at h
    · have := lines_ge ls (i + 1) k h
      omega
    · split at h
      · cases h
        exact Nat.le_refl _
      · split at h
        · cases h
        · rename_i h2
          cases h
          have := lines_ge ls (i + 1) _ h2
          omega
set_option maxRecDepth 100000 in
set_option maxHeartbeats 8000000 in
theorem scriptParses_any (s : ByteArray) (w : World) : Calls Tryd.prog 4 #[.string s] w fun e w' => e = .returned (.bool true) ∧ Kept w w' := by
  have HS : Hid (Calls Tryd.prog 7 #[.string s, .int .i64 300] w fun e w' => ∃ P : ByteArray, e = .returned (.string P) ∧ P.size ≤ 300 ∧ w = w') := short_any s 300 w (by omega)
  go_enter Tryd.func4, Tryd.ntmps4
  go_wp2_with fail
  refine HS.out.mono ?_
  rintro e w1 ⟨P, rfl, hP, rfl⟩
  have h1 := parse_any P w (by omega)
  have h2 := fun w' => dparse_any P w' (by omega)
  have HA := Lib.hid (fun w' => awake_any w')
  cases hr : parseF P.toList with
  | error k =>
    have hk := lines_ge _ _ _ hr
    rw [hr] at h1
    have H1 : Hid (Calls Tryd.prog 11 #[.string P] w fun e w' => e = .returned (.tuple #[.slice none 0 0, .int .i64 (k : Int), .int .i64 4]) ∧ Kept w w') := h1.mono fun e w' h => ⟨h.2, h.1⟩
    have H2 : Hid (∀ w', Calls Tryd.prog 12 #[.string P] w' fun e w'' => e = .returned (.tuple #[.slice none 0 0, .int .i64 (k : Int)]) ∧ Kept w' w'') := by
      intro w'
      have := h2 w'
      rw [hr] at this
      exact this.mono fun e w'' h => ⟨h.2, h.1⟩
    have l1 : (0 : Int) < k := by omega
    clear h1 h2 hr
    go_wp2_with fail
    refine H1.out.mono ?_
    rintro e w2 ⟨rfl, k2⟩
    go_wp2_with fail
    refine (H2.out _).mono ?_
    rintro e w3 ⟨rfl, k3⟩
    go_wp2_with fail
    refine (HA.out _).mono ?_
    rintro e w4 ⟨rfl, k4⟩
    go_wp2_with fail
    go_ret
    exact ⟨rfl, (k2.trans k3).trans k4⟩
  | ok sts =>
    rw [hr] at h1
    have H1 : Hid (Calls Tryd.prog 11 #[.string P] w fun e w' => ∃ (VA : Option Addr) (VC : Nat) (L : List Ov), e = .returned (.tuple #[.slice VA L.length VC, .int .i64 0, .int .i64 0]) ∧ Sl w' 6 VA L.length VC (L.flatMap Ov.cl) ∧ L.map Ov.st = sts ∧ (∀ o ∈ L, o.ok w') ∧ Kept w w') := h1.mono fun e w' h => by
      obtain ⟨h1, VA, VC, L, h2, h3, h4, h5⟩ := h
      exact ⟨VA, VC, L, h2, h3, h4, h5, h1⟩
    have H2 : Hid (∀ w', Calls Tryd.prog 12 #[.string P] w' fun e w'' => ∃ (VA : Option Addr) (VC : Nat) (L : List Ov), e = .returned (.tuple #[.slice VA L.length VC, .int .i64 0]) ∧ Sl w'' 6 VA L.length VC (L.flatMap Ov.cl) ∧ L.map Ov.st = sts ∧ (∀ o ∈ L, o.ok w'') ∧ Kept w' w'') := by
      intro w'
      have := h2 w'
      rw [hr] at this
      exact this.mono fun e w'' h => by
        obtain ⟨h1, VA, VC, L, h2, h3, h4, h5⟩ := h
        exact ⟨VA, VC, L, h2, h3, h4, h5, h1⟩
    clear h1 h2 hr
    go_wp2_with fail
    refine H1.out.mono ?_
    rintro e w2 ⟨VA, VC, L, rfl, hS, hL, hok, k2⟩
    have HL := Lib.hid hL
    have HOK := Lib.hid hok
    obtain ⟨m, hm⟩ : ∃ m, L.length = m := ⟨_, rfl⟩
    rw [hm] at hS ⊢
    have hml : sts.length = m := by rw [← hL, List.length_map, hm]
    have HML := Lib.hid hml
    clear hL hok hm hml
    go_wp2_with fail
    refine (H2.out _).mono ?_
    rintro e w3 ⟨VA', VC', L', rfl, hS', hL', hok', k3⟩
    have HL' := Lib.hid hL'
    have HOK' := Lib.hid hok'
    have hm' : L'.length = m := by rw [← HML.out, ← hL', List.length_map]
    rw [hm'] at hS' ⊢
    have hcap := hS.cap
    have hmax := hS.max
    have hcap' := hS'.cap
    have hmax' := hS'.max
    have hS3 := hS.kept k3
    have HK3 := Lib.hid k3
    have d0 : ((m : Int) != (m : Int)) = false := by simp
    have hk23 := k2.trans k3
    clear hL' hok' hm' hS k2 k3
    go_wp2_with fail
    go_loopw [54] (fun i wr => ∃ k : Nat, k ≤ m ∧ i = .int .i64 k ∧ Kept w3 wr) (fun i _ => m - (intOf i).toNat)
    case atStart => exact ⟨0, Nat.zero_le _, rfl, Kept.refl _⟩
    case round =>
      obtain ⟨k, hk, rfl, hkp⟩ := hrel
      by_cases hlt : k < m
      · obtain ⟨b, i, x, rfl, hx, x0, x1, x2, x3, x4, x5⟩ := (hS3.kept hkp).elemo hlt
        obtain ⟨b', i', y, rfl, hy, y0, y1, y2, y3, y4, y5⟩ := (hS'.kept hkp).elemo hlt
        have hst : x.st = y.st := by
          have e1 : (L.map Ov.st)[k]? = (L'.map Ov.st)[k]? := by rw [HL.out, HL'.out]
          rw [List.getElem?_map, List.getElem?_map, hx, hy] at e1
          exact Option.some.inj e1
        have hox : x.ok wr := Ov.ok_kept (Ov.ok_kept (HOK.out x (List.mem_of_getElem? hx)) HK3.out) hkp
        have hoy : y.ok wr := Ov.ok_kept (HOK'.out y (List.mem_of_getElem? hy)) hkp
        have HC : Hid (∀ p : KeptFrom wr, Calls Tryd.prog 13 #[.agg #[.int .i64 (x.k : Int), .slice x.A x.p.length x.c, .slice x.B x.q.length x.d, .int .i64 (x.n : Int), .string (strB x.a), .string (strB x.t)], .agg #[.int .i64 (y.k : Int), .slice y.A y.p.length y.c, .slice y.B y.q.length y.d, .int .i64 (y.n : Int), .string (strB y.a), .string (strB y.t)]] p.x fun e w'' => e = .returned (.bool true) ∧ Kept p.x w'') := fun p => same_any x y p.x (Ov.ok_kept hox p.k) (Ov.ok_kept hoy p.k) hst
        obtain ⟨xk, xA, xc, xp, xB, xd, xq, xn, xa, xt⟩ := x
        obtain ⟨yk, yA, yc, yp, yB, yd, yq, yn, ya, yt⟩ := y
        dsimp only at HC x0 x1 x2 x3 x4 x5 y0 y1 y2 y3 y4 y5
        have c0 : ∀ p : KeptFrom wr, p.x.cell? ⟨b, i + k * 6, none⟩ = some (.int .i64 (xk : Int)) := fun p => p.k.cell x0
        have c1 : ∀ p : KeptFrom wr, p.x.cell? ⟨b, i + k * 6 + 1, none⟩ = some (.slice xA xp.length xc) := fun p => p.k.cell x1
        have c2 : ∀ p : KeptFrom wr, p.x.cell? ⟨b, i + k * 6 + 2, none⟩ = some (.slice xB xq.length xd) := fun p => p.k.cell x2
        have c3 : ∀ p : KeptFrom wr, p.x.cell? ⟨b, i + k * 6 + 3, none⟩ = some (.int .i64 (xn : Int)) := fun p => p.k.cell x3
        have c4 : ∀ p : KeptFrom wr, p.x.cell? ⟨b, i + k * 6 + 4, none⟩ = some (.string (strB xa)) := fun p => p.k.cell x4
        have c5 : ∀ p : KeptFrom wr, p.x.cell? ⟨b, i + k * 6 + 5, none⟩ = some (.string (strB xt)) := fun p => p.k.cell x5
        have f0 : ∀ p : KeptFrom wr, p.x.cell? ⟨b', i' + k * 6, none⟩ = some (.int .i64 (yk : Int)) := fun p => p.k.cell y0
        have f1 : ∀ p : KeptFrom wr, p.x.cell? ⟨b', i' + k * 6 + 1, none⟩ = some (.slice yA yp.length yc) := fun p => p.k.cell y1
        have f2 : ∀ p : KeptFrom wr, p.x.cell? ⟨b', i' + k * 6 + 2, none⟩ = some (.slice yB yq.length yd) := fun p => p.k.cell y2
        have f3 : ∀ p : KeptFrom wr, p.x.cell? ⟨b', i' + k * 6 + 3, none⟩ = some (.int .i64 (yn : Int)) := fun p => p.k.cell y3
        have f4 : ∀ p : KeptFrom wr, p.x.cell? ⟨b', i' + k * 6 + 4, none⟩ = some (.string (strB ya)) := fun p => p.k.cell y4
        have f5 : ∀ p : KeptFrom wr, p.x.cell? ⟨b', i' + k * 6 + 5, none⟩ = some (.string (strB yt)) := fun p => p.k.cell y5
        have l1 : (0 : Int) ≤ k := by omega
        have l2 : (k : Int) < m := by omega
        clear x0 x1 x2 x3 x4 x5 y0 y1 y2 y3 y4 y5 hx hy hst hox hoy
        go_upto_region 11 with fail
        refine wp_region_kept (by kernel_rfl) (by kernel_rfl) ?_
        repeat (quiet_step ((go_at_call 13; with_reducible exact Calls.kept_of (HC.out _))))
        refine wpQuiet_nil ?_
        rintro w4 ⟨⟨w4', k4⟩, hw4⟩
        obtain rfl : w4 = w4' := hw4
        go_wp2_with fail
        go_roundw
        case rel => exact ⟨k + 1, hlt, by go_num, hkp.trans k4⟩
        case measure =>
          simp [intOf]
          omega
      · have l2 : ¬ (k : Int) < m := by omega
        go_wp2_with fail
        refine (HA.out _).mono ?_
        rintro e w4 ⟨rfl, k4⟩
        go_wp2_with fail
        go_ret
        exact ⟨rfl, (hk23.trans hkp).trans k4⟩
end Go.Proofs.YtmcmicgdkdbgjaaDoor
