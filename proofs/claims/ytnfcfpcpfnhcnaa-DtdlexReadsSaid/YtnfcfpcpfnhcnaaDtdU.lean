/- Layer 9, the document's: bracket, item, passed, closing: walked. Printed by gen_dtdu.py. -/
import Derived.Test.YtnfcfpcpfnhcnaaDtdT
namespace Go.Proofs.Ytnfcfpcpfnhcnaa
open Go.RowKit
attribute [local go_sem ↓] Go.wp_at_zero Go.wp_at_succ

theorem angleF_state {q x : Int} {l : List Int} {k : Nat} (hx : l[k]? = some x) :
    (q = 0 ∧ isQuote x = true ∧ angleF false q (l.drop k) = shiftF 1 (angleF false x (l.drop (k + 1)))) ∨ (q ≠ 0 ∧ x = q ∧ angleF false q (l.drop k) = shiftF 1 (angleF false 0 (l.drop (k + 1)))) ∨
    (q = 0 ∧ x = 62 ∧ angleF false q (l.drop k) = (0, true)) ∨ (q = 0 ∧ isQuote x = false ∧ x ≠ 62 ∧ angleF false q (l.drop k) = shiftF 1 (angleF false 0 (l.drop (k + 1)))) ∨
    (q ≠ 0 ∧ x ≠ q ∧ angleF false q (l.drop k) = shiftF 1 (angleF false q (l.drop (k + 1)))) := by
  rw [drop_get hx]
  by_cases hq : q = 0
  · subst hq
    cases hi : isQuote x
    · by_cases h62 : x = 62
      · subst h62
        exact .inr (.inr (.inl ⟨rfl, rfl, by simp [angleF, hi]⟩))
      · exact .inr (.inr (.inr (.inl ⟨rfl, rfl, h62, by simp [angleF, hi, h62, shiftF]⟩)))
    · exact .inl ⟨rfl, rfl, by simp [angleF, hi, shiftF]⟩
  · by_cases hxq : x = q
    · subst hxq
      exact .inr (.inl ⟨hq, rfl, by simp [angleF, hq, shiftF]⟩)
    · exact .inr (.inr (.inr (.inr ⟨hq, hxq, by simp [angleF, hq, hxq, shiftF]⟩)))
def rbrR (a D : Nat) : Int := if D = 0 then -1 else (a : Int) + D - 1
set_option maxHeartbeats 4000000 in
theorem rbracket_any (A : Option Addr) (n c : Nat) (l : List Int) (a : Nat) (w : World) (h : Sl w 1 A n c (l.map (Value.int .i32))) (hn : n ≤ 1000000) (ha : a ≤ n) :
    Calls Try.prog 51 #[.slice A n c, .int .i64 a] w fun e w' => e = .returned (.int .i64 (rbrR a (declS (l.drop a)))) ∧ Kept w w' := by
  have hcap := h.cap
  have hmax := h.max
  have hll := h.llen1
  have HL := Lib.hid hll
  have HQ := Lib.hid (rquotes_any A n c l a w h hn ha)
  have hG0 : (quosF a l).drop a = quoG 0 (l.drop a) := by
    unfold quosF
    rw [List.drop_append_of_le_length (by simp), List.drop_eq_nil_of_le (by simp), List.nil_append]
  obtain ⟨G, hG⟩ : ∃ G, quosF a l = G := ⟨_, rfl⟩
  rw [hG] at HQ hG0
  obtain ⟨R, hR⟩ : ∃ R, angleF false 0 (l.drop a) = R := ⟨_, rfl⟩
  obtain ⟨V, hV⟩ : ∃ V, rbrR a (declS (l.drop a)) = V := ⟨_, rfl⟩
  have hVV : V = if R.2 then (a : Int) + R.1 else -1 := by
    rw [← hV]
    unfold rbrR declS
    rw [hR]
    cases R.2
    · rfl
    · simp
      omega
  rw [hV]
  have HV := Lib.hid hVV
  have H0 := Lib.hid (show _ ∧ _ from ⟨hG0, hR⟩)
  clear hG hG0 hR hV hVV hll
  go_enter Try.func51, Try.ntmps51
  go_wp2_with fail
  refine HQ.out.mono ?_
  rintro e w1 ⟨GA, rfl, hGS, k1⟩
  clear HQ
  go_wp2_with fail
  go_loopw [6] (fun i wr => ∃ (k : Nat) (q : Int), k ≤ n ∧ a ≤ k ∧ i = .int .i64 k ∧ w1 = wr ∧ Hid (G.drop k = quoG q (l.drop k) ∧ (q = 0 ∨ isQuote q = true) ∧ R = shiftF (k - a) (angleF false q (l.drop k)))) (fun i _ => n - (intOf i).toNat)
  case atStart => exact ⟨a, 0, ha, Nat.le_refl _, rfl, by trivial, ⟨H0.out.1, .inl rfl, by rw [H0.out.2, Nat.sub_self]; rfl⟩⟩
  case round =>
    obtain ⟨k, q, hk, hak, rfl, rfl, hinv⟩ := hrel
    by_cases hlt : k < n
    · obtain ⟨b, o, x, rfl, hx, hc, hbb⟩ := (h.kept k1).oneb hlt
      obtain ⟨b2, o2, y, rfl, hy, hcy, hb2⟩ := hGS.oneb hlt
      obtain ⟨hi1, hi2, hi3⟩ := hinv.out
      have hst := quos_at hi1 hx
      have hag := angleF_state (q := q) hx
      have HX := Lib.hid hx
      clear hx
      -- the round goes on
      have ON : ∀ q' : Int, G.drop (k + 1) = quoG q' (l.drop (k + 1)) → (q' = 0 ∨ isQuote q' = true) → angleF false q (l.drop k) = shiftF 1 (angleF false q' (l.drop (k + 1))) →
          Hid (G.drop (k + 1) = quoG q' (l.drop (k + 1)) ∧ (q' = 0 ∨ isQuote q' = true) ∧ R = shiftF (k + 1 - a) (angleF false q' (l.drop (k + 1)))) := fun q' e1 e2 e3 => by
        refine ⟨e1, e2, ?_⟩
        rw [hi3, e3, shiftF_shiftF, show 1 + (k - a) = k + 1 - a by omega]
      by_cases hfound : y = 0 ∧ x = 62
      · obtain ⟨rfl, rfl⟩ := hfound
        have hVk : Hid (V = k) := by
          unfold Hid
          have hq0 : q = 0 := by
            rcases hst with ⟨h1, _⟩ | ⟨h1, h2, _⟩ | ⟨_, _, h3, _⟩
            · exact h1
            · rcases hi2 with h3 | h3
              · exact h3
              · rw [← h2] at h3
                exact absurd h3 (by decide)
            · rw [hy] at h3
              injection h3 with h3
              exact h3.symm
          subst hq0
          rw [HV.out, hi3, angleF_gt HX.out]
          simp [shiftF]
          omega
        clear hst hag ON hi1 hi2 hi3 hy
        go_wp2_with fail
        go_ret
        exact ⟨ret_int hVk.out.symm, k1⟩
      · have hnext : ∃ q' : Int, Hid (G.drop (k + 1) = quoG q' (l.drop (k + 1)) ∧ (q' = 0 ∨ isQuote q' = true) ∧ R = shiftF (k + 1 - a) (angleF false q' (l.drop (k + 1)))) := by
          rcases hst with ⟨h1, h2, _, h4⟩ | ⟨h1, h2, _, h4⟩ | ⟨h1, h2, h3, h4⟩
          · rcases hag with ⟨_, _, e⟩ | ⟨e1, _⟩ | ⟨_, e1, _⟩ | ⟨_, e1, _⟩ | ⟨e1, _⟩
            · exact ⟨x, ON x h4 (.inr h2) e⟩
            · exact absurd h1 e1
            · rw [e1] at h2; exact absurd h2 (by decide)
            · rw [h2] at e1; cases e1
            · exact absurd h1 e1
          · rcases hag with ⟨e1, _⟩ | ⟨_, _, e⟩ | ⟨e1, _⟩ | ⟨e1, _⟩ | ⟨_, e1, _⟩
            · exact absurd e1 h1
            · exact ⟨0, ON 0 h4 (.inl rfl) e⟩
            · exact absurd e1 h1
            · exact absurd e1 h1
            · exact absurd h2 e1
          · rcases hag with ⟨e1, e2, _⟩ | ⟨e1, e2, _⟩ | ⟨e1, e2, _⟩ | ⟨e1, _, _, e⟩ | ⟨e1, _, e⟩
            · exact absurd ⟨e1, e2⟩ h1
            · exact absurd ⟨e1, e2⟩ h2
            · exfalso
              rw [hy] at h3
              injection h3 with h3
              exact hfound ⟨h3.trans e1, e2⟩
            · subst e1
              exact ⟨0, ON 0 h4 (.inl rfl) e⟩
            · exact ⟨q, ON q h4 hi2 e⟩
        obtain ⟨q', HN⟩ := hnext
        clear hst hag ON hi1 hi2 hi3 hy
        by_cases hy0 : y = 0
        · subst hy0
          have d62 : (x == 62) = false := by
            have : x ≠ 62 := fun e => hfound ⟨rfl, e⟩
            simpa using this
          clear hfound
          go_wp2_with fail
          go_roundw
          case rel => exact ⟨k + 1, q', hlt, by omega, by go_num, by trivial, HN⟩
          case measure => simp [intOf]; omega
        · have d0 : (y == 0) = false := by simpa using hy0
          clear hfound hy0
          go_wp2_with fail
          go_roundw
          case rel => exact ⟨k + 1, q', hlt, by omega, by go_num, by trivial, HN⟩
          case measure => simp [intOf]; omega
    · obtain rfl : k = n := by omega
      have hVk : Hid (V = -1) := by
        unfold Hid
        rw [HV.out, hinv.out.2.2, List.drop_eq_nil_of_le (by rw [HL.out]; exact Nat.le_refl _)]
        cases q <;> simp [angleF, shiftF]
      go_wp2_with fail
      go_ret
      exact ⟨ret_int hVk.out.symm, k1⟩


set_option maxHeartbeats 8000000 in
theorem ritem_any (A : Option Addr) (n c : Nat) (l : List Int) (a : Nat) (w : World) (h : Sl w 1 A n c (l.map (Value.int .i32))) (hn : n ≤ 1000000) (ha : a < n) (hr : Rn l) :
    Calls Try.prog 30 #[.slice A n c, .int .i64 a] w fun e w' => e = .returned (.agg #[.int .i64 (itemF (l.drop a)).1, .int .i64 a, .int .i64 ((a : Int) + ((itemF (l.drop a)).2 : Nat))]) ∧ Kept w w' := by
  have hcap := h.cap
  have hmax := h.max
  have hl := h.llen1
  obtain ⟨b, o, x, rfl, hx, hc, hbb⟩ := h.oneb (k := a) ha
  have hc0 := fun w' (hk : Kept w w') => rstarts_any (some ⟨b, o, none⟩) n c l a ⟨#[60, 33, 45, 45]⟩ w' (h.kept hk) (by decide) (by decide) hn (by omega) (by decide) hr
  rw [show strI ⟨#[60, 33, 45, 45]⟩ = cmt from rfl] at hc0
  have hs0 := startsF_len (p := cmt) (s := l.drop a)
  rw [List.length_drop, hl] at hs0
  have hc1 := fun w' (hk : Kept w w') => rstarts_any (some ⟨b, o, none⟩) n c l a ⟨#[60, 63]⟩ w' (h.kept hk) (by decide) (by decide) hn (by omega) (by decide) hr
  rw [show strI ⟨#[60, 63]⟩ = pis from rfl] at hc1
  have hs1 := startsF_len (p := pis) (s := l.drop a)
  rw [List.length_drop, hl] at hs1
  have hc2 := fun w' (hk : Kept w w') => rstarts_any (some ⟨b, o, none⟩) n c l a ⟨#[60, 33]⟩ w' (h.kept hk) (by decide) (by decide) hn (by omega) (by decide) hr
  rw [show strI ⟨#[60, 33]⟩ = [60, 33] from rfl] at hc2
  have hs2 := startsF_len (p := [60, 33]) (s := l.drop a)
  rw [List.length_drop, hl] at hs2
  have hu0 := fun (hle : a + 4 ≤ n) w' (hk : Kept w w') => rfind_any (some ⟨b, o, none⟩) n c l (a + 4) ⟨#[45, 45, 62]⟩ w' (h.kept hk) (by decide) (by decide) hn hle (by decide) hr
  have hu1 := fun (hle : a + 2 ≤ n) w' (hk : Kept w w') => rfind_any (some ⟨b, o, none⟩) n c l (a + 2) ⟨#[63, 62]⟩ w' (h.kept hk) (by decide) (by decide) hn hle (by decide) hr
  rw [show strI ⟨#[45, 45, 62]⟩ = cmt2 from rfl] at hu0
  rw [show strI ⟨#[63, 62]⟩ = pis2 from rfl] at hu1
  have hu2 := fun w' (hk : Kept w w') => rbracket_any (some ⟨b, o, none⟩) n c l a w' (h.kept hk) hn (by omega)
  have hz0e : tillF 4 cmt2 (l.drop a) = match findF cmt2 (l.drop (a + 4)) with | some k => 4 + k + 3 | none => 0 := by
    unfold tillF
    rw [List.drop_drop]
    rfl
  have hz1e : tillF 2 pis2 (l.drop a) = match findF pis2 (l.drop (a + 2)) with | some k => 2 + k + 2 | none => 0 := by
    unfold tillF
    rw [List.drop_drop]
    rfl
  have hu3 := fun w' (hk : Kept w w') => rlead_any (some ⟨b, o, none⟩) n c l ((a + 1 : Nat) : Int) w' (h.kept hk) (by omega)
  simp only [Int.toNat_natCast] at hu3
  have hle3 := leadF_le (l.drop (a + 1))
  rw [List.length_drop, hl] at hle3
  have hu4 := fun w' (hk : Kept w w') => rstarts_any (some ⟨b, o, none⟩) n c l (a + 1 + leadF (l.drop (a + 1))) ⟨#[59]⟩ w' (h.kept hk) (by decide) (by decide) hn (by omega) (by decide) hr
  rw [show strI ⟨#[59]⟩ = [59] from rfl] at hu4
  have hu5 := fun w' => rspace_any x w'
  have hu6 := fun w' (hk : Kept w w') => rword_any (some ⟨b, o, none⟩) n c l a w' (h.kept hk) hn ha
  have hx0 : (l.drop a)[0]? = some x := by rw [List.getElem?_drop]; exact hx
  have hnm : x = 37 → namedS (l.drop a) = if 0 < leadF (l.drop (a + 1)) ∧ startsF [59] (l.drop (a + 1 + leadF (l.drop (a + 1)))) = true then leadF (l.drop (a + 1)) + 2 else 0 := fun e => by
    unfold namedS
    rw [hx0, e, List.drop_drop, List.drop_drop, show a + (leadF (l.drop (a + 1)) + 1) = a + 1 + leadF (l.drop (a + 1)) by omega]
    simp only [true_and]
  have hsp1 : isSpace x = true → wordF (l.drop a) = (3, runF isSpace (l.drop a)) ∧ 0 < runF isSpace (l.drop a) := fun e => by
    have h1 := runF_yes hx e
    unfold wordF
    rw [if_pos (by omega)]
    exact ⟨rfl, by omega⟩
  have hsp0 : isSpace x = false → runF isSpace (l.drop a) = 0 := fun e => runF_no hx e
  have hfl0 : ∀ k, findF cmt2 (l.drop (a + 4)) = some k → a + 4 + k + 3 ≤ n := fun k e => by
    have h1 := findF_le e
    rw [List.length_drop, hl] at h1
    simp [cmt2] at h1
    omega
  have hfl1 : ∀ k, findF pis2 (l.drop (a + 2)) = some k → a + 2 + k + 2 ≤ n := fun k e => by
    have h1 := findF_le e
    rw [List.length_drop, hl] at h1
    simp [pis2] at h1
    omega
  have hdl := declS_le (l.drop a)
  rw [List.length_drop, hl] at hdl
  obtain ⟨K, N, hKN⟩ : ∃ K N, itemF (l.drop a) = (K, N) := ⟨_, _, rfl⟩
  rw [hKN]
  dsimp only
  unfold itemF itemK at hKN
  rw [hx0] at hKN
  simp only [Option.some.injEq] at hKN
  rw [hz0e, hz1e] at hKN
  clear hz0e hz1e hx0 hx
  obtain ⟨b0, hb0⟩ : ∃ b, startsF cmt (l.drop a) = b := ⟨_, rfl⟩
  rw [hb0] at hc0 hs0 hKN
  have C0 := Lib.hid hc0
  clear hc0 hb0
  obtain ⟨b1, hb1⟩ : ∃ b, startsF pis (l.drop a) = b := ⟨_, rfl⟩
  rw [hb1] at hc1 hs1 hKN
  have C1 := Lib.hid hc1
  clear hc1 hb1
  obtain ⟨b2, hb2⟩ : ∃ b, startsF [60, 33] (l.drop a) = b := ⟨_, rfl⟩
  rw [hb2] at hc2 hs2 hKN
  have C2 := Lib.hid hc2
  clear hc2 hb2
  obtain ⟨F0, hF0⟩ : ∃ F, findF cmt2 (l.drop (a + 4)) = F := ⟨_, rfl⟩
  obtain ⟨F1, hF1⟩ : ∃ F, findF pis2 (l.drop (a + 2)) = F := ⟨_, rfl⟩
  obtain ⟨D, hD⟩ : ∃ D, declS (l.drop a) = D := ⟨_, rfl⟩
  obtain ⟨M, hM⟩ : ∃ M, namedS (l.drop a) = M := ⟨_, rfl⟩
  obtain ⟨b4, hb4⟩ : ∃ b, startsF [59] (l.drop (a + 1 + leadF (l.drop (a + 1)))) = b := ⟨_, rfl⟩
  obtain ⟨R, hR⟩ : ∃ R, runF isSpace (l.drop a) = R := ⟨_, rfl⟩
  obtain ⟨sp, hsp⟩ : ∃ s, isSpace x = s := ⟨_, rfl⟩
  rw [hb4] at hu4 hnm
  obtain ⟨L, hL⟩ : ∃ L, leadF (l.drop (a + 1)) = L := ⟨_, rfl⟩
  rw [hF0] at hu0 hKN hfl0
  rw [hF1] at hu1 hKN hfl1
  rw [hD] at hu2 hKN hdl
  rw [hM] at hKN hnm
  rw [hL] at hu3 hu4 hnm hle3
  rw [hR] at hKN hsp1 hsp0
  rw [hsp] at hu5 hsp1 hsp0
  have U0 := Lib.hid hu0
  have U1 := Lib.hid hu1
  have U2 := Lib.hid hu2
  have U3 := Lib.hid hu3
  have U4 := Lib.hid hu4
  have U5 := Lib.hid hu5
  have U6 := Lib.hid hu6
  have HKN := Lib.hid hKN
  have HS01 := Lib.hid (show _ ∧ _ from ⟨hsp1, hsp0⟩)
  have HNM := Lib.hid hnm
  clear hu0 hu1 hu2 hu3 hu4 hu5 hu6 hF0 hF1 hD hM hL hb4 hR hsp hsp1 hsp0 hnm hKN h
  have ws1 : IntKind.i64.wrap ((a : Int) + 1) = (a : Int) + 1 := IntWalk.i64_in _ (by omega)
  have ws2 : IntKind.i64.wrap ((a : Int) + 2) = ((a + 2 : Nat) : Int) := by rw [IntWalk.i64_in _ (by omega)]; omega
  have ws4 : IntKind.i64.wrap ((a : Int) + 4) = ((a + 4 : Nat) : Int) := by rw [IntWalk.i64_in _ (by omega)]; omega
  have hk0 : Kept w ((w.alloc (.cells zp 36)).alloc (.cells #[.int .i64 8, .int .i64 a, .int .i64 ((a : Int) + 1)] 36)) := ((Kept.refl _).alloc _).alloc _
  have B0 := (Blk.new w zp 36).alloc (.cells #[.int .i64 8, .int .i64 a, .int .i64 ((a : Int) + 1)] 36)
  have J0 : Blk ((w.alloc (.cells zp 36)).alloc (.cells #[.int .i64 8, .int .i64 a, .int .i64 ((a : Int) + 1)] 36)) (w.heap.size + 1) #[.int .i64 8, .int .i64 a, .int .i64 ((a : Int) + 1)] 36 := by
    have hj := Blk.new (w.alloc (.cells zp 36)) #[.int .i64 8, .int .i64 a, .int .i64 ((a : Int) + 1)] 36
    rw [World.size_alloc] at hj
    exact hj
  cases b0
  rotate_left
  · have hle : a + 4 ≤ n := by have := hs0 rfl; simp [cmt] at this; omega
    clear hs0 hs1 hs2
    cases F0 with
    | none =>
      obtain ⟨rfl, rfl⟩ : K = 8 ∧ N = 1 := by
        have h1 := HKN.out
        simp at h1
        exact ⟨h1.1.symm, h1.2.symm⟩
      clear HKN
      go_enter Try.func30, Try.ntmps30
      go_upto_region 2 with fail
      generalize (w.alloc (.cells zp 36)).alloc (.cells #[.int .i64 8, .int .i64 a, .int .i64 ((a : Int) + 1)] 36) = w1 at hk0 B0 J0 ⊢
      have q := hk0
      have B := B0
      have J := J0
      have hx1 := q.cell hc
      go_wp2_with fail
      refine (C0.out _ q).mono ?_
      rintro e w9 ⟨rfl, h9⟩
      have q := q.trans h9
      have B := B.kept h9
      have J := J.kept h9
      have hx1 := q.cell hc
      go_wp2_with fail
      simp only [rfindR] at U0
      refine (U0.out hle _ q).mono ?_
      rintro e w9 ⟨rfl, h9⟩
      have q := q.trans h9
      have B := B.kept h9
      have J := J.kept h9
      have hx1 := q.cell hc
      have f9 := B.cell
      have g9 := B.frozen
      have gl9 := B.lt
      have j0 := J.cell 0
      have j1 := J.cell 1
      have j2 := J.cell 2
      have jl9 := J.lt
      go_wp2_with fail
      refine bodyPost_ret (v := .agg #[.int .i64 8, .int .i64 a, .int .i64 ((a : Int) + 1)]) ?_ rfl ⟨by rfl, ?_⟩
      · simp [results, Try.results30, go_sem, f9]
      · repeat (first | (with_reducible exact q) | (with_reducible refine Kept.setCell ?_ (by simp; try omega) _))
    | some k =>
      have hk4 := hfl0 k rfl
      obtain ⟨rfl, rfl⟩ : K = 12 ∧ N = 4 + k + 3 := by
        have h1 := HKN.out
        simp at h1
        exact ⟨h1.1.symm, h1.2.symm⟩
      clear HKN
      have qk : (0 : Int) ≤ ((a + 4 + k : Nat) : Int) := by omega
      have wk : IntKind.i64.wrap (((a + 4 + k : Nat) : Int) + 3) = ((a + 4 + k : Nat) : Int) + 3 := IntWalk.i64_in _ (by omega)
      go_enter Try.func30, Try.ntmps30
      go_upto_region 2 with fail
      generalize (w.alloc (.cells zp 36)).alloc (.cells #[.int .i64 8, .int .i64 a, .int .i64 ((a : Int) + 1)] 36) = w1 at hk0 B0 J0 ⊢
      have q := hk0
      have B := B0
      have J := J0
      have hx1 := q.cell hc
      go_wp2_with fail
      refine (C0.out _ q).mono ?_
      rintro e w9 ⟨rfl, h9⟩
      have q := q.trans h9
      have B := B.kept h9
      have J := J.kept h9
      have hx1 := q.cell hc
      go_wp2_with fail
      simp only [rfindR] at U0
      refine (U0.out hle _ q).mono ?_
      rintro e w9 ⟨rfl, h9⟩
      have q := q.trans h9
      have B := B.kept h9
      have J := J.kept h9
      have hx1 := q.cell hc
      have f9 := B.cell
      have g9 := B.frozen
      have gl9 := B.lt
      have j0 := J.cell 0
      have j1 := J.cell 1
      have j2 := J.cell 2
      have jl9 := J.lt
      go_wp2_with fail
      refine bodyPost_ret (v := .agg #[.int .i64 12, .int .i64 a, .int .i64 (((a + 4 + k : Nat) : Int) + 3)]) ?_ rfl ⟨by rw [show ((a + 4 + k : Nat) : Int) + 3 = (a : Int) + ((4 + k + 3 : Nat) : Int) by omega], ?_⟩
      · simp [results, Try.results30, go_sem, f9]
      · repeat (first | (with_reducible exact q) | (with_reducible refine Kept.setCell ?_ (by simp; try omega) _))
  cases b1
  rotate_left
  · have hle : a + 2 ≤ n := by have := hs1 rfl; simp [pis] at this; omega
    clear hs0 hs1 hs2
    cases F1 with
    | none =>
      obtain ⟨rfl, rfl⟩ : K = 8 ∧ N = 1 := by
        have h1 := HKN.out
        simp at h1
        exact ⟨h1.1.symm, h1.2.symm⟩
      clear HKN
      go_enter Try.func30, Try.ntmps30
      go_upto_region 2 with fail
      generalize (w.alloc (.cells zp 36)).alloc (.cells #[.int .i64 8, .int .i64 a, .int .i64 ((a : Int) + 1)] 36) = w1 at hk0 B0 J0 ⊢
      have q := hk0
      have B := B0
      have J := J0
      have hx1 := q.cell hc
      go_wp2_with fail
      refine (C0.out _ q).mono ?_
      rintro e w9 ⟨rfl, h9⟩
      have q := q.trans h9
      have B := B.kept h9
      have J := J.kept h9
      have hx1 := q.cell hc
      go_wp2_with fail
      refine (C1.out _ q).mono ?_
      rintro e w9 ⟨rfl, h9⟩
      have q := q.trans h9
      have B := B.kept h9
      have J := J.kept h9
      have hx1 := q.cell hc
      go_wp2_with fail
      simp only [rfindR] at U1
      refine (U1.out hle _ q).mono ?_
      rintro e w9 ⟨rfl, h9⟩
      have q := q.trans h9
      have B := B.kept h9
      have J := J.kept h9
      have hx1 := q.cell hc
      have f9 := B.cell
      have g9 := B.frozen
      have gl9 := B.lt
      have j0 := J.cell 0
      have j1 := J.cell 1
      have j2 := J.cell 2
      have jl9 := J.lt
      go_wp2_with fail
      refine bodyPost_ret (v := .agg #[.int .i64 8, .int .i64 a, .int .i64 ((a : Int) + 1)]) ?_ rfl ⟨by rfl, ?_⟩
      · simp [results, Try.results30, go_sem, f9]
      · repeat (first | (with_reducible exact q) | (with_reducible refine Kept.setCell ?_ (by simp; try omega) _))
    | some k =>
      have hk4 := hfl1 k rfl
      obtain ⟨rfl, rfl⟩ : K = 13 ∧ N = 2 + k + 2 := by
        have h1 := HKN.out
        simp at h1
        exact ⟨h1.1.symm, h1.2.symm⟩
      clear HKN
      have qk : (0 : Int) ≤ ((a + 2 + k : Nat) : Int) := by omega
      have wk : IntKind.i64.wrap (((a + 2 + k : Nat) : Int) + 2) = ((a + 2 + k : Nat) : Int) + 2 := IntWalk.i64_in _ (by omega)
      go_enter Try.func30, Try.ntmps30
      go_upto_region 2 with fail
      generalize (w.alloc (.cells zp 36)).alloc (.cells #[.int .i64 8, .int .i64 a, .int .i64 ((a : Int) + 1)] 36) = w1 at hk0 B0 J0 ⊢
      have q := hk0
      have B := B0
      have J := J0
      have hx1 := q.cell hc
      go_wp2_with fail
      refine (C0.out _ q).mono ?_
      rintro e w9 ⟨rfl, h9⟩
      have q := q.trans h9
      have B := B.kept h9
      have J := J.kept h9
      have hx1 := q.cell hc
      go_wp2_with fail
      refine (C1.out _ q).mono ?_
      rintro e w9 ⟨rfl, h9⟩
      have q := q.trans h9
      have B := B.kept h9
      have J := J.kept h9
      have hx1 := q.cell hc
      go_wp2_with fail
      simp only [rfindR] at U1
      refine (U1.out hle _ q).mono ?_
      rintro e w9 ⟨rfl, h9⟩
      have q := q.trans h9
      have B := B.kept h9
      have J := J.kept h9
      have hx1 := q.cell hc
      have f9 := B.cell
      have g9 := B.frozen
      have gl9 := B.lt
      have j0 := J.cell 0
      have j1 := J.cell 1
      have j2 := J.cell 2
      have jl9 := J.lt
      go_wp2_with fail
      refine bodyPost_ret (v := .agg #[.int .i64 13, .int .i64 a, .int .i64 (((a + 2 + k : Nat) : Int) + 2)]) ?_ rfl ⟨by rw [show ((a + 2 + k : Nat) : Int) + 2 = (a : Int) + ((2 + k + 2 : Nat) : Int) by omega], ?_⟩
      · simp [results, Try.results30, go_sem, f9]
      · repeat (first | (with_reducible exact q) | (with_reducible refine Kept.setCell ?_ (by simp; try omega) _))
  cases b2
  rotate_left
  · clear hs0 hs1 hs2
    by_cases hD0 : D = 0
    · subst hD0
      obtain ⟨rfl, rfl⟩ : K = 8 ∧ N = 1 := by
        have h1 := HKN.out
        simp at h1
        exact ⟨h1.1.symm, h1.2.symm⟩
      clear HKN
      simp only [rbrR, if_true] at U2
      go_enter Try.func30, Try.ntmps30
      go_upto_region 2 with fail
      generalize (w.alloc (.cells zp 36)).alloc (.cells #[.int .i64 8, .int .i64 a, .int .i64 ((a : Int) + 1)] 36) = w1 at hk0 B0 J0 ⊢
      have q := hk0
      have B := B0
      have J := J0
      have hx1 := q.cell hc
      go_wp2_with fail
      refine (C0.out _ q).mono ?_
      rintro e w9 ⟨rfl, h9⟩
      have q := q.trans h9
      have B := B.kept h9
      have J := J.kept h9
      have hx1 := q.cell hc
      go_wp2_with fail
      refine (C1.out _ q).mono ?_
      rintro e w9 ⟨rfl, h9⟩
      have q := q.trans h9
      have B := B.kept h9
      have J := J.kept h9
      have hx1 := q.cell hc
      go_wp2_with fail
      refine (C2.out _ q).mono ?_
      rintro e w9 ⟨rfl, h9⟩
      have q := q.trans h9
      have B := B.kept h9
      have J := J.kept h9
      have hx1 := q.cell hc
      go_wp2_with fail
      refine (U2.out _ q).mono ?_
      rintro e w9 ⟨rfl, h9⟩
      have q := q.trans h9
      have B := B.kept h9
      have J := J.kept h9
      have hx1 := q.cell hc
      have f9 := B.cell
      have g9 := B.frozen
      have gl9 := B.lt
      have j0 := J.cell 0
      have j1 := J.cell 1
      have j2 := J.cell 2
      have jl9 := J.lt
      go_wp2_with fail
      refine bodyPost_ret (v := .agg #[.int .i64 8, .int .i64 a, .int .i64 ((a : Int) + 1)]) ?_ rfl ⟨by rfl, ?_⟩
      · simp [results, Try.results30, go_sem, f9]
      · repeat (first | (with_reducible exact q) | (with_reducible refine Kept.setCell ?_ (by simp; try omega) _))
    · have hbr : rbrR a D = ((a + D - 1 : Nat) : Int) := by unfold rbrR; rw [if_neg hD0]; omega
      obtain ⟨rfl, rfl⟩ : K = 11 ∧ N = D := by
        have h1 := HKN.out
        simp [hD0] at h1
        exact ⟨h1.1.symm, h1.2.symm⟩
      clear HKN
      rw [hbr] at U2
      obtain ⟨m, hm⟩ : ∃ m, a + N - 1 = m := ⟨_, rfl⟩
      rw [hm] at U2
      have qk : (0 : Int) ≤ (m : Int) := by omega
      have wk : IntKind.i64.wrap ((m : Int) + 1) = (m : Int) + 1 := IntWalk.i64_in _ (by omega)
      clear hbr
      go_enter Try.func30, Try.ntmps30
      go_upto_region 2 with fail
      generalize (w.alloc (.cells zp 36)).alloc (.cells #[.int .i64 8, .int .i64 a, .int .i64 ((a : Int) + 1)] 36) = w1 at hk0 B0 J0 ⊢
      have q := hk0
      have B := B0
      have J := J0
      have hx1 := q.cell hc
      go_wp2_with fail
      refine (C0.out _ q).mono ?_
      rintro e w9 ⟨rfl, h9⟩
      have q := q.trans h9
      have B := B.kept h9
      have J := J.kept h9
      have hx1 := q.cell hc
      go_wp2_with fail
      refine (C1.out _ q).mono ?_
      rintro e w9 ⟨rfl, h9⟩
      have q := q.trans h9
      have B := B.kept h9
      have J := J.kept h9
      have hx1 := q.cell hc
      go_wp2_with fail
      refine (C2.out _ q).mono ?_
      rintro e w9 ⟨rfl, h9⟩
      have q := q.trans h9
      have B := B.kept h9
      have J := J.kept h9
      have hx1 := q.cell hc
      go_wp2_with fail
      refine (U2.out _ q).mono ?_
      rintro e w9 ⟨rfl, h9⟩
      have q := q.trans h9
      have B := B.kept h9
      have J := J.kept h9
      have hx1 := q.cell hc
      have f9 := B.cell
      have g9 := B.frozen
      have gl9 := B.lt
      have j0 := J.cell 0
      have j1 := J.cell 1
      have j2 := J.cell 2
      have jl9 := J.lt
      go_wp2_with fail
      refine bodyPost_ret (v := .agg #[.int .i64 11, .int .i64 a, .int .i64 ((m : Int) + 1)]) ?_ rfl ⟨by rw [show (m : Int) + 1 = (a : Int) + (N : Int) by omega], ?_⟩
      · simp [results, Try.results30, go_sem, f9]
      · repeat (first | (with_reducible exact q) | (with_reducible refine Kept.setCell ?_ (by simp; try omega) _))
  clear hs0 hs1 hs2
  by_cases h37 : x = 37
  · subst h37
    have hm := HNM.out rfl
    by_cases hL0 : 0 < L
    rotate_left
    · obtain rfl : L = 0 := by omega
      obtain rfl : M = 0 := by simpa using hm
      clear hm HNM
      obtain ⟨rfl, rfl⟩ : K = 8 ∧ N = 1 := by
        have h1 := HKN.out
        simp at h1
        exact ⟨h1.1.symm, h1.2.symm⟩
      clear HKN
      go_enter Try.func30, Try.ntmps30
      go_upto_region 2 with fail
      generalize (w.alloc (.cells zp 36)).alloc (.cells #[.int .i64 8, .int .i64 a, .int .i64 ((a : Int) + 1)] 36) = w1 at hk0 B0 J0 ⊢
      have q := hk0
      have B := B0
      have J := J0
      have hx1 := q.cell hc
      go_wp2_with fail
      refine (C0.out _ q).mono ?_
      rintro e w9 ⟨rfl, h9⟩
      have q := q.trans h9
      have B := B.kept h9
      have J := J.kept h9
      have hx1 := q.cell hc
      go_wp2_with fail
      refine (C1.out _ q).mono ?_
      rintro e w9 ⟨rfl, h9⟩
      have q := q.trans h9
      have B := B.kept h9
      have J := J.kept h9
      have hx1 := q.cell hc
      go_wp2_with fail
      refine (C2.out _ q).mono ?_
      rintro e w9 ⟨rfl, h9⟩
      have q := q.trans h9
      have B := B.kept h9
      have J := J.kept h9
      have hx1 := q.cell hc
      go_wp2_with fail
      refine (U3.out _ q).mono ?_
      rintro e w9 ⟨rfl, h9⟩
      have q := q.trans h9
      have B := B.kept h9
      have J := J.kept h9
      have hx1 := q.cell hc
      have f9 := B.cell
      have g9 := B.frozen
      have gl9 := B.lt
      have j0 := J.cell 0
      have j1 := J.cell 1
      have j2 := J.cell 2
      have jl9 := J.lt
      go_wp2_with fail
      refine bodyPost_ret (v := .agg #[.int .i64 8, .int .i64 a, .int .i64 ((a : Int) + 1)]) ?_ rfl ⟨by rfl, ?_⟩
      · simp [results, Try.results30, go_sem, f9]
      · repeat (first | (with_reducible exact q) | (with_reducible refine Kept.setCell ?_ (by simp; try omega) _))
    have qL : (0 : Int) < L := by omega
    have wL : IntKind.i64.wrap ((a : Int) + 1 + L) = ((a + 1 + L : Nat) : Int) := by rw [IntWalk.i64_in _ (by omega)]; omega
    have wL2 : IntKind.i64.wrap ((a : Int) + L) = (a : Int) + L := IntWalk.i64_in _ (by omega)
    have wL3 : IntKind.i64.wrap ((a : Int) + L + 2) = (a : Int) + L + 2 := IntWalk.i64_in _ (by omega)
    cases b4
    · obtain rfl : M = 0 := by simpa using hm
      clear hm HNM
      obtain ⟨rfl, rfl⟩ : K = 8 ∧ N = 1 := by
        have h1 := HKN.out
        simp at h1
        exact ⟨h1.1.symm, h1.2.symm⟩
      clear HKN
      go_enter Try.func30, Try.ntmps30
      go_upto_region 2 with fail
      generalize (w.alloc (.cells zp 36)).alloc (.cells #[.int .i64 8, .int .i64 a, .int .i64 ((a : Int) + 1)] 36) = w1 at hk0 B0 J0 ⊢
      have q := hk0
      have B := B0
      have J := J0
      have hx1 := q.cell hc
      go_wp2_with fail
      refine (C0.out _ q).mono ?_
      rintro e w9 ⟨rfl, h9⟩
      have q := q.trans h9
      have B := B.kept h9
      have J := J.kept h9
      have hx1 := q.cell hc
      go_wp2_with fail
      refine (C1.out _ q).mono ?_
      rintro e w9 ⟨rfl, h9⟩
      have q := q.trans h9
      have B := B.kept h9
      have J := J.kept h9
      have hx1 := q.cell hc
      go_wp2_with fail
      refine (C2.out _ q).mono ?_
      rintro e w9 ⟨rfl, h9⟩
      have q := q.trans h9
      have B := B.kept h9
      have J := J.kept h9
      have hx1 := q.cell hc
      go_wp2_with fail
      refine (U3.out _ q).mono ?_
      rintro e w9 ⟨rfl, h9⟩
      have q := q.trans h9
      have B := B.kept h9
      have J := J.kept h9
      have hx1 := q.cell hc
      go_wp2_with fail
      refine (U4.out _ q).mono ?_
      rintro e w9 ⟨rfl, h9⟩
      have q := q.trans h9
      have B := B.kept h9
      have J := J.kept h9
      have hx1 := q.cell hc
      have f9 := B.cell
      have g9 := B.frozen
      have gl9 := B.lt
      have j0 := J.cell 0
      have j1 := J.cell 1
      have j2 := J.cell 2
      have jl9 := J.lt
      go_wp2_with fail
      refine bodyPost_ret (v := .agg #[.int .i64 8, .int .i64 a, .int .i64 ((a : Int) + 1)]) ?_ rfl ⟨by rfl, ?_⟩
      · simp [results, Try.results30, go_sem, f9]
      · repeat (first | (with_reducible exact q) | (with_reducible refine Kept.setCell ?_ (by simp; try omega) _))
    · obtain rfl : M = L + 2 := by rw [hm, if_pos ⟨hL0, rfl⟩]
      clear hm HNM
      obtain ⟨rfl, rfl⟩ : K = 14 ∧ N = L + 2 := by
        have h1 := HKN.out
        simp at h1
        exact ⟨h1.1.symm, h1.2.symm⟩
      clear HKN
      go_enter Try.func30, Try.ntmps30
      go_upto_region 2 with fail
      generalize (w.alloc (.cells zp 36)).alloc (.cells #[.int .i64 8, .int .i64 a, .int .i64 ((a : Int) + 1)] 36) = w1 at hk0 B0 J0 ⊢
      have q := hk0
      have B := B0
      have J := J0
      have hx1 := q.cell hc
      go_wp2_with fail
      refine (C0.out _ q).mono ?_
      rintro e w9 ⟨rfl, h9⟩
      have q := q.trans h9
      have B := B.kept h9
      have J := J.kept h9
      have hx1 := q.cell hc
      go_wp2_with fail
      refine (C1.out _ q).mono ?_
      rintro e w9 ⟨rfl, h9⟩
      have q := q.trans h9
      have B := B.kept h9
      have J := J.kept h9
      have hx1 := q.cell hc
      go_wp2_with fail
      refine (C2.out _ q).mono ?_
      rintro e w9 ⟨rfl, h9⟩
      have q := q.trans h9
      have B := B.kept h9
      have J := J.kept h9
      have hx1 := q.cell hc
      go_wp2_with fail
      refine (U3.out _ q).mono ?_
      rintro e w9 ⟨rfl, h9⟩
      have q := q.trans h9
      have B := B.kept h9
      have J := J.kept h9
      have hx1 := q.cell hc
      go_wp2_with fail
      refine (U4.out _ q).mono ?_
      rintro e w9 ⟨rfl, h9⟩
      have q := q.trans h9
      have B := B.kept h9
      have J := J.kept h9
      have hx1 := q.cell hc
      have f9 := B.cell
      have g9 := B.frozen
      have gl9 := B.lt
      have j0 := J.cell 0
      have j1 := J.cell 1
      have j2 := J.cell 2
      have jl9 := J.lt
      go_wp2_with fail
      refine bodyPost_ret (v := .agg #[.int .i64 14, .int .i64 a, .int .i64 ((a : Int) + L + 2)]) ?_ rfl ⟨by rw [show (a : Int) + L + 2 = (a : Int) + ((L + 2 : Nat) : Int) by omega], ?_⟩
      · simp [results, Try.results30, go_sem, f9]
      · repeat (first | (with_reducible exact q) | (with_reducible refine Kept.setCell ?_ (by simp; try omega) _))
  · have d37 : (x == 37) = false := by simpa using h37
    cases sp
    · obtain rfl : R = 0 := HS01.out.2 rfl
      obtain ⟨rfl, rfl⟩ : K = 8 ∧ N = 1 := by
        have h1 := HKN.out
        simp [h37] at h1
        exact ⟨h1.1.symm, h1.2.symm⟩
      clear HKN
      clear h37
      go_enter Try.func30, Try.ntmps30
      go_upto_region 2 with fail
      generalize (w.alloc (.cells zp 36)).alloc (.cells #[.int .i64 8, .int .i64 a, .int .i64 ((a : Int) + 1)] 36) = w1 at hk0 B0 J0 ⊢
      have q := hk0
      have B := B0
      have J := J0
      have hx1 := q.cell hc
      go_wp2_with fail
      refine (C0.out _ q).mono ?_
      rintro e w9 ⟨rfl, h9⟩
      have q := q.trans h9
      have B := B.kept h9
      have J := J.kept h9
      have hx1 := q.cell hc
      go_wp2_with fail
      refine (C1.out _ q).mono ?_
      rintro e w9 ⟨rfl, h9⟩
      have q := q.trans h9
      have B := B.kept h9
      have J := J.kept h9
      have hx1 := q.cell hc
      go_wp2_with fail
      refine (C2.out _ q).mono ?_
      rintro e w9 ⟨rfl, h9⟩
      have q := q.trans h9
      have B := B.kept h9
      have J := J.kept h9
      have hx1 := q.cell hc
      go_wp2_with fail
      refine (U5.out _).mono ?_
      rintro e w9 ⟨rfl, rfl⟩
      have f9 := B.cell
      have g9 := B.frozen
      have gl9 := B.lt
      have j0 := J.cell 0
      have j1 := J.cell 1
      have j2 := J.cell 2
      have jl9 := J.lt
      go_wp2_with fail
      refine bodyPost_ret (v := .agg #[.int .i64 8, .int .i64 a, .int .i64 ((a : Int) + 1)]) ?_ rfl ⟨by rfl, ?_⟩
      · simp [results, Try.results30, go_sem, f9]
      · repeat (first | (with_reducible exact q) | (with_reducible refine Kept.setCell ?_ (by simp; try omega) _))
    · obtain ⟨hw, hR0⟩ := HS01.out.1 rfl
      have hR1 : R ≠ 0 := by omega
      obtain ⟨rfl, rfl⟩ : K = 3 ∧ N = R := by
        have h1 := HKN.out
        simp [h37, hR1] at h1
        exact ⟨h1.1.symm, h1.2.symm⟩
      clear HKN
      rw [hw] at U6
      dsimp only at U6
      clear h37 hw
      go_enter Try.func30, Try.ntmps30
      go_upto_region 2 with fail
      generalize (w.alloc (.cells zp 36)).alloc (.cells #[.int .i64 8, .int .i64 a, .int .i64 ((a : Int) + 1)] 36) = w1 at hk0 B0 J0 ⊢
      have q := hk0
      have B := B0
      have J := J0
      have hx1 := q.cell hc
      go_wp2_with fail
      refine (C0.out _ q).mono ?_
      rintro e w9 ⟨rfl, h9⟩
      have q := q.trans h9
      have B := B.kept h9
      have J := J.kept h9
      have hx1 := q.cell hc
      go_wp2_with fail
      refine (C1.out _ q).mono ?_
      rintro e w9 ⟨rfl, h9⟩
      have q := q.trans h9
      have B := B.kept h9
      have J := J.kept h9
      have hx1 := q.cell hc
      go_wp2_with fail
      refine (C2.out _ q).mono ?_
      rintro e w9 ⟨rfl, h9⟩
      have q := q.trans h9
      have B := B.kept h9
      have J := J.kept h9
      have hx1 := q.cell hc
      go_wp2_with fail
      refine (U5.out _).mono ?_
      rintro e w9 ⟨rfl, rfl⟩
      go_wp2_with fail
      refine (U6.out _ q).mono ?_
      rintro e w9 ⟨rfl, h9⟩
      have q := q.trans h9
      have B := B.kept h9
      have J := J.kept h9
      have hx1 := q.cell hc
      have f9 := B.cell
      have g9 := B.frozen
      have gl9 := B.lt
      have j0 := J.cell 0
      have j1 := J.cell 1
      have j2 := J.cell 2
      have jl9 := J.lt
      go_wp2_with fail
      refine bodyPost_ret (v := .agg #[.int .i64 3, .int .i64 a, .int .i64 ((a : Int) + N)]) ?_ rfl ⟨by rfl, ?_⟩
      · simp [results, Try.results30, go_sem, f9]
      · repeat (first | (with_reducible exact q) | (with_reducible refine Kept.setCell ?_ (by simp; try omega) _))
end Go.Proofs.Ytnfcfpcpfnhcnaa
