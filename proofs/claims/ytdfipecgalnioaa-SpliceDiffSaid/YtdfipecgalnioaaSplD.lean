/- splice.Diff as plain data, and walked. -/
import Derived.Test.YtdfipecgalnioaaSplM
import Derived.BigRegion
import Derived.IntWalk
namespace Go.Proofs.Ytdfipecgalnioaa
open Go.RowKit
attribute [local go_sem ↓] Go.wp_at_zero Go.wp_at_succ

theorem nums_inj {a b : List Int} (ha : ∀ x ∈ a, 0 ≤ x ∧ x ≤ 255) (hb : ∀ x ∈ b, 0 ≤ x ∧ x ≤ 255) (h : (strOfNums a).data.toList = (strOfNums b).data.toList) : a = b := by
  rw [strOfNums_data, strOfNums_data] at h
  have back : ∀ l : List Int, (∀ x ∈ l, 0 ≤ x ∧ x ≤ 255) → (l.map fun n => UInt8.ofNat n.toNat).map (fun u => ((u.toNat : Nat) : Int)) = l := by
    intro l hl
    rw [List.map_map]
    conv => rhs; rw [← List.map_id l]
    apply List.map_congr_left
    intro x hx
    have := hl x hx
    simp
    omega
  rw [← back a ha, ← back b hb, h]
theorem nums_eq {a b : List Int} (ha : ∀ x ∈ a, 0 ≤ x ∧ x ≤ 255) (hb : ∀ x ∈ b, 0 ≤ x ∧ x ≤ 255) : ((strOfNums a).toList == (strOfNums b).toList) = decide (a = b) := by
  rw [ByteArray.toList_eq, ByteArray.toList_eq, Bool.eq_iff_iff]
  simp only [beq_iff_eq, decide_eq_true_eq]
  exact ⟨nums_inj ha hb, fun e => by rw [e]⟩
theorem equal_any (A : Option Addr) (n c : Nat) (a : List Int) (A' : Option Addr) (n' c' : Nat) (b : List Int) (w : World) (h : Sl w 1 A n c (a.map (Value.int .u8))) (h' : Sl w 1 A' n' c' (b.map (Value.int .u8))) (ha : ∀ x ∈ a, 0 ≤ x ∧ x ≤ 255) (hb : ∀ x ∈ b, 0 ≤ x ∧ x ≤ 255) :
    Calls Try.prog 25 #[.slice A n c, .slice A' n' c'] w fun e w' => e = .returned (.bool (decide (a = b))) ∧ w = w' := by
  rw [← nums_eq ha hb]
  have st1 := run_str (P := Try.prog) Try.underlying34 Try.underlying5 Try.underlying9 h
  have st2 := run_str (P := Try.prog) Try.underlying34 Try.underlying5 Try.underlying9 h'
  generalize strOfNums a = s1 at st1 ⊢
  generalize strOfNums b = s2 at st2 ⊢
  generalize hz : (s1.toList == s2.toList) = z
  go_enter Try.func25, Try.ntmps25
  go_wp2_with fail
  go_ret
  exact ⟨rfl, rfl⟩

theorem Sl.far {w : World} {s n c : Nat} {A : Option Addr} {xs : List Value} (h : Sl w s A n c xs) {p : Addr} (hne : ∀ b o, A = some ⟨b, o, none⟩ → b ≠ p.block) (u : Value) : Sl (w.setCell p u) s A n c xs :=
  ⟨h.1, h.2.1, h.2.2.1, fun hn => by
    obtain ⟨b, o, e, hc⟩ := h.2.2.2 hn
    refine ⟨b, o, e, fun j v hv => ?_⟩
    rw [World.cell?_of_block (heap_setCell_other w p b u (hne b o e))]
    exact hc j v hv⟩
/-- F is how many at the beginning, N how many behind them at the end, are the same; no more are. -/
structure Diffs (a b : List Int) (F N : Nat) : Prop where
  le : F + N ≤ min a.length b.length
  pre : ∀ i, i < F → a[i]? = b[i]?
  suf : ∀ i, i < N → a[a.length - 1 - i]? = b[b.length - 1 - i]?
  endF : F < min a.length b.length → a[F]? ≠ b[F]?
  endN : N < min a.length b.length - F → a[a.length - 1 - N]? ≠ b[b.length - 1 - N]?
def diffC (b : List Int) (la F N : Nat) (A : Option Addr) (c : Nat) : Ch := ⟨F, (la - N : Nat), A, b.length - N - F, c, (b.drop F).take (b.length - N - F)⟩
set_option maxRecDepth 100000 in
set_option maxHeartbeats 8000000 in
theorem diff_no (A : Option Addr) (n c : Nat) (a : List Int) (A' : Option Addr) (n' c' : Nat) (w : World) (h : Sl w 1 A n c (a.map (Value.int .u8))) (h' : Sl w 1 A' n' c' (a.map (Value.int .u8))) (ha : ∀ x ∈ a, 0 ≤ x ∧ x ≤ 255) :
    Calls Try.prog 16 #[.slice A n c, .slice A' n' c'] w fun e w' => e = .returned (.tuple #[.agg #[.int .i64 0, .int .i64 0, .slice none 0 0], .bool false]) ∧ Kept w w' := by
  have heq := fun w' (hk : Kept w w') => equal_any A n c a A' n' c' a w' (h.kept hk) (h'.kept hk) ha ha
  rw [show decide (a = a) = true by simp] at heq
  have HE := Lib.hid heq
  clear heq ha
  go_enter Try.func16, Try.ntmps16
  go_wp2_with fail
  refine (HE.out _ (by repeat (first | exact Kept.refl _ | refine Kept.alloc ?_ _))).mono ?_
  rintro e w1 ⟨rfl, rfl⟩
  go_wp2_with fail
  refine bodyPost_ret (v := .tuple #[.agg #[.int .i64 0, .int .i64 0, .slice none 0 0], .bool false]) (by simp [results, Try.results16, go_sem]) rfl ⟨rfl, ?_⟩
  repeat (first | exact Kept.refl _ | (refine Kept.setCell ?_ (Nat.le_refl _) _) | refine Kept.alloc ?_ _)
set_option maxRecDepth 100000 in
set_option maxHeartbeats 8000000 in
theorem diff_yes (A : Option Addr) (n c : Nat) (a : List Int) (A' : Option Addr) (n' c' : Nat) (b : List Int) (w : World) (h : Sl w 1 A n c (a.map (Value.int .u8))) (h' : Sl w 1 A' n' c' (b.map (Value.int .u8))) (ha : ∀ x ∈ a, 0 ≤ x ∧ x ≤ 255) (hb : ∀ x ∈ b, 0 ≤ x ∧ x ≤ 255) (hab : a ≠ b) (hn : n ≤ 1000) (hn' : n' ≤ 1000) :
    Calls Try.prog 16 #[.slice A n c, .slice A' n' c'] w fun e w' => ∃ F N VA VC, Diffs a b F N ∧ e = .returned (.tuple #[.agg #[.int .i64 F, .int .i64 (n - N : Nat), .slice VA (n' - N - F) VC], .bool true]) ∧ Sl w' 1 VA (n' - N - F) VC (((b.drop F).take (n' - N - F)).map (Value.int .u8)) ∧ Kept w w' := by
  have hla := h.llen1
  have hlb := h'.llen1
  have hcap := h.cap
  have hmax := h.max
  have hcap' := h'.cap
  have hmax' := h'.max
  have heq := fun w' (hk : Kept w w') => equal_any A n c a A' n' c' b w' (h.kept hk) (h'.kept hk) ha hb
  rw [show decide (a = b) = false by simpa using hab] at heq
  have HE := Lib.hid heq
  have HLA := Lib.hid hla
  have HLB := Lib.hid hlb
  clear heq ha hb hab hla hlb
  have k0 := (Kept.refl w).alloc (.cells #[.int .i64 0, .int .i64 0, .slice none 0 0] 44)
  have bx := Blk.new w #[.int .i64 0, .int .i64 0, .slice none 0 0] 44
  go_enter Try.func16, Try.ntmps16
  go_upto_region 1 with fail
  generalize w.alloc (.cells #[.int .i64 0, .int .i64 0, .slice none 0 0] 44) = w0 at k0 bx ⊢
  obtain ⟨g0, hg0⟩ : ∃ g, w.heap.size = g := ⟨_, rfl⟩
  have hge : w.heap.size ≤ g0 := by omega
  rw [hg0] at bx ⊢
  clear hg0
  go_wp2_with fail
  refine (HE.out _ k0).mono ?_
  rintro e w1 ⟨rfl, rfl⟩
  go_wp2_with fail
  obtain ⟨MN, hMN⟩ : ∃ z, min n n' = z := ⟨_, rfl⟩
  have m1 : MN ≤ n := by omega
  have m2 : MN ≤ n' := by omega
  have hmin : min (n : Int) (n' : Int) = (MN : Int) := by omega
  have HMN := Lib.hid hMN
  clear hMN
  go_loopw [6] (fun s wr => ∃ (F : Nat), F ≤ MN ∧ s = .int .i64 F ∧ Kept w0 wr ∧ Hid (∀ i, i < F → a[i]? = b[i]?)) (fun s _ => MN - (intOf s).toNat)
  case atStart => exact ⟨0, Nat.zero_le _, rfl, Kept.refl _, fun i hi => by omega⟩
  case round =>
    obtain ⟨F, hFm, rfl, hkr, hinv⟩ := hrel
    by_cases hgo : F < MN ∧ a[F]? = b[F]?
    · obtain ⟨hlt, hab⟩ := hgo
      obtain ⟨b1, o1, x, rfl, hx, cx, hbx⟩ := ((h.kept k0).kept hkr).oneb (k := F) (by omega)
      obtain ⟨b2, o2, y, rfl, hy, cy, hby⟩ := ((h'.kept k0).kept hkr).oneb (k := F) (by omega)
      obtain rfl : x = y := by rw [hx, hy] at hab; injection hab
      have e1 : ∀ p : KeptFrom wr, p.x.cell? ⟨b1, o1 + F, none⟩ = some (.int .u8 x) := fun p => p.k.cell cx
      have e2 : ∀ p : KeptFrom wr, p.x.cell? ⟨b2, o2 + F, none⟩ = some (.int .u8 x) := fun p => p.k.cell cy
      have l0 : (0 : Int) ≤ F := by omega
      have l1 : (F : Int) < n := by omega
      have l2 : (F : Int) < n' := by omega
      have hp1 : ∀ i, i < F + 1 → a[i]? = b[i]? := by
        intro i hi
        rcases Nat.lt_or_ge i F with h | h
        · exact hinv.out i h
        · rw [show i = F by omega, hx, hy]
      have HP1 := Lib.hid hp1
      clear hp1 hx hy cx cy hab
      go_upto_region 4 with fail
      refine wp_region_kept (by kernel_rfl) (by kernel_rfl) ?_
      repeat (quiet_step (fail))
      refine wpQuiet_nil ?_
      rintro _ ⟨⟨w2, k2⟩, rfl⟩
      go_wp2_with fail
      go_roundw
      case rel => exact ⟨F + 1, hlt, by go_num, hkr.trans k2, HP1.out⟩
      case measure =>
        simp [intOf]
        omega
    · have hend : F < MN → a[F]? ≠ b[F]? := fun h1 h2 => hgo ⟨h1, h2⟩
      have HEND := Lib.hid hend
      clear hgo hend
      go_upto_region 4 with fail
      go_cut [29] (fun s wx => s = .bool false ∧ Kept wr wx)
      case first =>
        by_cases hlt : F < MN
        · obtain ⟨b1, o1, x, rfl, hx, cx, hbx⟩ := ((h.kept k0).kept hkr).oneb (k := F) (by omega)
          obtain ⟨b2, o2, y, rfl, hy, cy, hby⟩ := ((h'.kept k0).kept hkr).oneb (k := F) (by omega)
          have d1 : (x == y) = false := by
            have := HEND.out hlt
            rw [hx, hy] at this
            simpa using this
          have e1 : ∀ p : KeptFrom wr, p.x.cell? ⟨b1, o1 + F, none⟩ = some (.int .u8 x) := fun p => p.k.cell cx
          have e2 : ∀ p : KeptFrom wr, p.x.cell? ⟨b2, o2 + F, none⟩ = some (.int .u8 y) := fun p => p.k.cell cy
          have l0 : (0 : Int) ≤ F := by omega
          have l1 : (F : Int) < n := by omega
          have l2 : (F : Int) < n' := by omega
          clear hx hy cx cy
          refine wp_region_kept (by kernel_rfl) (by kernel_rfl) ?_
          repeat (quiet_step (fail))
          refine wpQuiet_nil ?_
          rintro _ ⟨⟨w2, k2⟩, rfl⟩
          go_wp2_with fail
          go_meet
          exact ⟨rfl, k2⟩
        · have d1 : decide (F < MN) = false := by simp; omega
          clear hlt
          go_region
          go_wp2_with fail
          go_meet
          exact ⟨rfl, (Kept.refl _).drew⟩
      case rest =>
        obtain ⟨rfl, hkc⟩ := hcut
        have hk1 := hkr.trans hkc
        have HPRE := Lib.hid hinv.out
        have HEND2 := Lib.hid HEND.out
        clear hinv hkr hkc HEND
        obtain ⟨MF, hMF⟩ : ∃ z, MN - F = z := ⟨_, rfl⟩
        have hMF2 : (MN : Int) - F = MF := by omega
        have hMF3 : MF + F ≤ MN := by omega
        have HMF := Lib.hid hMF
        have HMF2 := Lib.hid hMF2
        clear hMF
        clear hMF2
        go_wp2_with fail
        go_loopw [7] (fun s wr => ∃ (N : Nat), N ≤ MF ∧ s = .int .i64 N ∧ Kept w0 wr ∧ Hid (∀ i, i < N → a[a.length - 1 - i]? = b[b.length - 1 - i]?)) (fun s _ => MF - (intOf s).toNat)
        case atStart => exact ⟨0, Nat.zero_le _, rfl, hk1, fun i hi => by omega⟩
        case round =>
          obtain ⟨N, hNm, rfl, hkr, hinv⟩ := hrel
          have wMF : IntKind.i64.wrap ((MN : Int) - F) = (MF : Int) := by have := HMF2.out; rw [IntWalk.i64_in _ (by omega)]; exact this
          by_cases hgo : N < MF ∧ a[a.length - 1 - N]? = b[b.length - 1 - N]?
          · obtain ⟨hlt, hab⟩ := hgo
            obtain ⟨P1, hP1⟩ : ∃ z, n - 1 - N = z := ⟨_, rfl⟩
            obtain ⟨P2, hP2⟩ : ∃ z, n' - 1 - N = z := ⟨_, rfl⟩
            obtain ⟨n1, hn1⟩ : ∃ z, n - 1 = z := ⟨_, rfl⟩
            obtain ⟨n2, hn2⟩ : ∃ z, n' - 1 = z := ⟨_, rfl⟩
            have wa : IntKind.i64.wrap ((n : Int) - 1) = (n1 : Int) := by rw [IntWalk.i64_in _ (by omega)]; omega
            have wb : IntKind.i64.wrap ((n' : Int) - 1) = (n2 : Int) := by rw [IntWalk.i64_in _ (by omega)]; omega
            have wc : IntKind.i64.wrap ((n1 : Int) - N) = (P1 : Int) := by rw [IntWalk.i64_in _ (by omega)]; omega
            have wd : IntKind.i64.wrap ((n2 : Int) - N) = (P2 : Int) := by rw [IntWalk.i64_in _ (by omega)]; omega
            have g1 : P1 < n := by omega
            have g2 : P2 < n' := by omega
            obtain ⟨b1, o1, x, rfl, hx, cx, hbx⟩ := ((h.kept k0).kept hkr).oneb g1
            obtain ⟨b2, o2, y, rfl, hy, cy, hby⟩ := ((h'.kept k0).kept hkr).oneb g2
            have e1 : ∀ p : KeptFrom wr, p.x.cell? ⟨b1, o1 + P1, none⟩ = some (.int .u8 x) := fun p => p.k.cell cx
            have e2 : ∀ p : KeptFrom wr, p.x.cell? ⟨b2, o2 + P2, none⟩ = some (.int .u8 y) := fun p => p.k.cell cy
            have hxy : (a[a.length - 1 - N]? = b[b.length - 1 - N]?) ↔ x = y := by
              rw [HLA.out, HLB.out, hP1, hP2, hx, hy]
              simp
            have l0 : (0 : Int) ≤ P1 := by omega
            have l1 : (P1 : Int) < n := by omega
            have l2 : (P2 : Int) < n' := by omega
            have l3 : (0 : Int) ≤ P2 := by omega
            have d1 : (x == y) = true := by simpa using hxy.1 hab
            have hp1 : ∀ i, i < N + 1 → a[a.length - 1 - i]? = b[b.length - 1 - i]? := by
              intro i hi
              rcases Nat.lt_or_ge i N with h | h
              · exact hinv.out i h
              · rw [show i = N by omega]
                exact hab
            have HP1 := Lib.hid hp1
            clear hx hy cx cy hxy hP1 hP2 hn1 hn2 hp1 hab
            go_upto_region 7 with fail
            refine wp_region_kept (by kernel_rfl) (by kernel_rfl) ?_
            repeat (quiet_step (fail))
            refine wpQuiet_nil ?_
            rintro _ ⟨⟨w2, k2⟩, rfl⟩
            clear wa wb wc wd wMF
            go_wp2_with fail
            go_roundw
            case rel => exact ⟨N + 1, hlt, by go_num, hkr.trans k2, HP1.out⟩
            case measure =>
              simp [intOf]
              omega
          · have hend : N < MF → a[a.length - 1 - N]? ≠ b[b.length - 1 - N]? := fun h1 h2 => hgo ⟨h1, h2⟩
            have HEND := Lib.hid hend
            clear hgo hend
            go_upto_region 7 with fail
            go_cut [59] (fun s wx => s = .bool false ∧ Kept wr wx)
            case first =>
              by_cases hlt : N < MF
              · obtain ⟨P1, hP1⟩ : ∃ z, n - 1 - N = z := ⟨_, rfl⟩
                obtain ⟨P2, hP2⟩ : ∃ z, n' - 1 - N = z := ⟨_, rfl⟩
                obtain ⟨n1, hn1⟩ : ∃ z, n - 1 = z := ⟨_, rfl⟩
                obtain ⟨n2, hn2⟩ : ∃ z, n' - 1 = z := ⟨_, rfl⟩
                have wa : IntKind.i64.wrap ((n : Int) - 1) = (n1 : Int) := by rw [IntWalk.i64_in _ (by omega)]; omega
                have wb : IntKind.i64.wrap ((n' : Int) - 1) = (n2 : Int) := by rw [IntWalk.i64_in _ (by omega)]; omega
                have wc : IntKind.i64.wrap ((n1 : Int) - N) = (P1 : Int) := by rw [IntWalk.i64_in _ (by omega)]; omega
                have wd : IntKind.i64.wrap ((n2 : Int) - N) = (P2 : Int) := by rw [IntWalk.i64_in _ (by omega)]; omega
                have g1 : P1 < n := by omega
                have g2 : P2 < n' := by omega
                obtain ⟨b1, o1, x, rfl, hx, cx, hbx⟩ := ((h.kept k0).kept hkr).oneb g1
                obtain ⟨b2, o2, y, rfl, hy, cy, hby⟩ := ((h'.kept k0).kept hkr).oneb g2
                have e1 : ∀ p : KeptFrom wr, p.x.cell? ⟨b1, o1 + P1, none⟩ = some (.int .u8 x) := fun p => p.k.cell cx
                have e2 : ∀ p : KeptFrom wr, p.x.cell? ⟨b2, o2 + P2, none⟩ = some (.int .u8 y) := fun p => p.k.cell cy
                have hxy : (a[a.length - 1 - N]? = b[b.length - 1 - N]?) ↔ x = y := by
                  rw [HLA.out, HLB.out, hP1, hP2, hx, hy]
                  simp
                have l0 : (0 : Int) ≤ P1 := by omega
                have l1 : (P1 : Int) < n := by omega
                have l2 : (P2 : Int) < n' := by omega
                have l3 : (0 : Int) ≤ P2 := by omega
                have d1 : (x == y) = false := by
                  have h1 := HEND.out hlt
                  simpa using fun e => h1 (hxy.2 e)
                clear hx hy cx cy hxy hP1 hP2 hn1 hn2
                refine wp_region_kept (by kernel_rfl) (by kernel_rfl) ?_
                repeat (quiet_step (fail))
                refine wpQuiet_nil ?_
                rintro _ ⟨⟨w2, k2⟩, rfl⟩
                clear wa wb wc wd wMF
                go_wp2_with fail
                go_meet
                exact ⟨rfl, k2⟩
              · have d1 : decide (N < MF) = false := by simp; omega
                clear hlt
                go_region
                clear wMF
                go_wp2_with fail
                go_meet
                exact ⟨rfl, (Kept.refl _).drew⟩
            case rest =>
              obtain ⟨rfl, hkc⟩ := hcut
              have hk2 := hkr.trans hkc
              have hD : Diffs a b F N := by
                have e1 := HLA.out
                have e2 := HLB.out
                have e3 := HMF.out
                have e4 := HMN.out
                exact ⟨by rw [e1, e2]; omega, HPRE.out, hinv.out, fun h => HEND2.out (by rw [e1, e2] at h; omega), fun h => HEND.out (by rw [e1, e2] at h; omega)⟩
              have HD := Lib.hid hD
              have hb2 := bx.kept hk2
              have hs := (h'.kept (k0.trans hk2)).cut1 (i := F) (m := n' - N) (by omega) (by omega)
              have hcut := run_cut_lh appT_bytes A' n' c' F (n' - N) (by omega) (by omega)
              obtain ⟨C2, hC2⟩ : ∃ C, cutA A' c' F 1 = C := ⟨_, rfl⟩
              rw [hC2] at hs hcut
              obtain ⟨E1, hE1⟩ : ∃ z, n - N = z := ⟨_, rfl⟩
              obtain ⟨E2, hE2⟩ : ∃ z, n' - N = z := ⟨_, rfl⟩
              rw [hE2] at hs hcut
              have x1 : (n : Int) - N = (E1 : Int) := by omega
              have x2 : (n' : Int) - N = (E2 : Int) := by omega
              have x3 : IntKind.i64.wrap ((n : Int) - N) = (E1 : Int) := by rw [IntWalk.i64_in _ (by omega)]; exact x1
              have x4 : IntKind.i64.wrap ((n' : Int) - N) = (E2 : Int) := by rw [IntWalk.i64_in _ (by omega)]; exact x2
              have y1 : (F : Int) ≤ E2 := by omega
              have y2 : (E2 : Int) ≤ c' := by omega
              have y3 : (0 : Int) ≤ F := by omega
              have z1 : E2 - F ≤ 1000000 := by omega
              have HE1 := Lib.hid hE1
              have HE2' := Lib.hid hE2
              clear hC2 hE1 hE2 hinv hD wMF
              go_wp2_with fail
              refine (clone_any _ _ _ _ _ hs z1).mono ?_
              rintro e w5 ⟨VA, VC, rfl, hV, hVf, k5⟩
              have hg0 := hb2.lt
              have hfar : ∀ (b o : Nat), VA = some ⟨b, o, none⟩ → b ≠ g0 := fun b o e => by have := (hVf b o e).1; omega
              have hkk := (k0.trans hk2).trans k5
              have b5 := (hb2.kept k5).cell
              have f5 := (hb2.kept k5).frozen
              clear hs hcut x1 x2 x3 x4
              have B5 := (((hb2.kept k5).set 0 (.int .i64 F)).set 1 (.int .i64 E1)).set 2 (.slice VA (E2 - F) VC)
              simp only [List.setIfInBounds_toArray, List.set_cons_zero, List.set_cons_succ] at B5
              have HFAR := Lib.hid hfar
              clear hfar hVf
              go_wp2_with fail
              have c0 := B5.cell 0
              have c1 := B5.cell 1
              have c2 := B5.cell 2
              refine bodyPost_ret (v := .tuple #[.agg #[.int .i64 F, .int .i64 E1, .slice VA (E2 - F) VC], .bool true]) (by simp [results, Try.results16, go_sem, c0, c1, c2]) rfl ⟨F, N, VA, VC, HD.out, by rw [HE1.out, HE2'.out], ?_, ?_⟩
              · rw [HE2'.out]
                exact ((hV.far (p := ⟨g0, 0, none⟩) HFAR.out _).far (p := ⟨g0, 1, none⟩) HFAR.out _).far (p := ⟨g0, 2, none⟩) HFAR.out _
              · exact ((hkk.setCell (p := ⟨g0, 0, none⟩) hge _).setCell (p := ⟨g0, 1, none⟩) hge _).setCell (p := ⟨g0, 2, none⟩) hge _
end Go.Proofs.Ytdfipecgalnioaa
