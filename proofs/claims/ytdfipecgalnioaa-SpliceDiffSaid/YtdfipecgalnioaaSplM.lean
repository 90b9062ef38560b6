/- The laws SpliceApplies, SpliceBack: walked. -/
import Derived.Test.YtdfipecgalnioaaSplK
namespace Go.Proofs.Ytdfipecgalnioaa
open Go.RowKit
attribute [local go_sem ↓] Go.wp_at_zero Go.wp_at_succ

/-- What an Apply that goes through leaves. -/
def DoneOf (b : List Int) (K : List Kc) (w : World) (e : Ending) (w' : World) : Prop :=
  ∃ (A : Option Addr) (n c : Nat) (A' : Option Addr) (n' c' : Nat) (L : List Ch), e = .returned (.tuple #[.slice A n c, .slice A' n' c', .int .i64 0]) ∧ Sl w' 1 A n c ((outF b 0 (srt K)).map (Value.int .u8)) ∧ Sl w' 3 A' n' c' (L.flatMap Ch.cells) ∧ (∀ x ∈ L, x.ok w') ∧ L.map Ch.k = backF b 0 0 (srt K) ∧ Kept w w'
theorem done_of {b : List Int} {K : List Kc} {w w' : World} {e : Ending} (h : AppliedOf b K w e w') (h0 : errA b K = 0) : DoneOf b K w e w' := by
  obtain ⟨hk, ⟨h1, _⟩ | ⟨_, A, n, c, A', n', c', L, h1, h2, h3, h4, h5⟩⟩ := h
  · exact absurd h0 h1
  · exact ⟨A, n, c, A', n', c', L, h1, h2, h3, h4, h5, hk⟩
theorem none_of {b : List Int} {K : List Kc} {w w' : World} {e : Ending} (h : AppliedOf b K w e w') (h0 : ¬ errA b K = 0) : e = .returned (.tuple #[.slice none 0 0, .slice none 0 0, .int .i64 (errA b K)]) ∧ Kept w w' := by
  obtain ⟨hk, ⟨_, h1⟩ | ⟨h1, _⟩⟩ := h
  · exact ⟨h1, hk⟩
  · exact absurd h1 h0
theorem srt_len (K : List Kc) : (srt K).length = K.length := sortF_len _ _
theorem back_len (b : List Int) : ∀ (l : List Kc) (n a : Nat), (backF b n a l).length = l.length
  | [], _, _ => rfl
  | c :: l, n, a => by rw [backF_cons, List.length_cons, back_len b l, List.length_cons]
theorem back_small (b : List Int) : ∀ (l : List Kc) (n a : Nat), ∀ c ∈ backF b n a l, c.b.length ≤ b.length
  | [], _, _, c, h => by cases h
  | d :: l, n, a, c, h => by
    rw [backF_cons] at h
    rcases List.mem_cons.1 h with rfl | h
    · dsimp only
      rw [List.length_take, List.length_drop]
      omega
    · exact back_small b l _ _ c h
theorem take_le {l : List Int} {n : Nat} : (l.take n).length ≤ n := List.length_take_le _ _

set_option maxHeartbeats 8000000 in
theorem spliceApplies_any (B : Option Addr) (m d : Nat) (b : List Int) (A : Option Addr) (n c : Nat) (L : List Ch) (w : World) (hB : Sl w 1 B m d (b.map (Value.int .u8))) (h : Sl w 3 A n c (L.flatMap Ch.cells)) (hok : ∀ x ∈ L, x.ok w) :
    Calls Try.prog 4 #[.slice B m d, .slice A n c] w fun e w' => e = .returned (.bool true) ∧ Kept w w' := by
  have HOK := Lib.hid hok
  have hsh := short_any B m d b w hB
  have hB0 := short_sl hB
  have hmb : min m 80 ≤ 80 := Nat.min_le_right _ _
  obtain ⟨M, hM⟩ : ∃ z, min m 80 = z := ⟨_, rfl⟩
  rw [hM] at hsh hB0 hmb
  obtain ⟨b', hb'⟩ : ∃ z, b.take 80 = z := ⟨_, rfl⟩
  rw [hb'] at hB0
  have HSH := Lib.hid hsh
  clear hok hsh hM hb'
  go_enter Try.func4, Try.ntmps4
  go_wp2_with fail
  refine HSH.out.mono ?_
  rintro e w1 ⟨rfl, k1⟩
  go_wp2_with fail
  refine (few_any A n c L _ (h.kept k1) (oks_kept HOK.out k1)).mono ?_
  rintro e w2 ⟨VA, VN, VC, rfl, hVN, hV, k2⟩
  have hok1 := oks_kept (oks_few HOK.out) (k1.trans k2)
  have hfn := few_n (L := L)
  obtain ⟨LL, hLL⟩ : ∃ M, (L.take 8).map cutCh = M := ⟨_, rfl⟩
  rw [hLL] at hV hok1 hfn
  have HOK1 := Lib.hid hok1
  have HFN := Lib.hid hfn
  clear hLL hok1 hfn
  go_wp2_with fail
  refine (ours_any _ _ _ LL _ hV (by omega)).mono ?_
  rintro e w3 ⟨VA2, VC2, rfl, hV2, k3⟩
  have k13 := (k1.trans k2).trans k3
  have hap := apply_any B M d b' VA2 VN VC2 LL w3 (hB0.kept k13) (by omega) hV2 (oks_kept HOK1.out k3) (by omega) (fun x hx => Nat.le_trans (HFN.out x hx) (by omega))
  have hrp := fun w4 (k4 : Kept w3 w4) => rapply_any B M d b' VA VN VC LL w4 (hB0.kept (k13.trans k4)) (by omega) (hV.kept (k3.trans k4)) (oks_kept HOK1.out (k3.trans k4)) (by omega) (fun x hx => Nat.le_trans (HFN.out x hx) (by omega))
  by_cases he : errA b' (LL.map Ch.k) = 0
  · have hap2 : Calls Try.prog 14 #[.slice B M d, .slice VA2 VN VC2] w3 fun e w' => DoneOf b' (LL.map Ch.k) w3 e w' := hap.mono fun e w' h => done_of h he
    have hrp2 : ∀ w4, Kept w3 w4 → Calls Try.prog 15 #[.slice B M d, .slice VA VN VC] w4 fun e w' => DoneOf b' (LL.map Ch.k) w4 e w' := fun w4 k4 => (hrp w4 k4).mono fun e w' h => done_of h he
    have HA := Lib.hid hap2
    have HR := Lib.hid hrp2
    clear hap hrp hap2 hrp2 he
    go_wp2_with fail
    refine HA.out.mono ?_
    rintro e w4 ⟨A4, n4, c4, A5, n5, c5, L4, rfl, h4, h5, ok4, m4, k4⟩
    have HO4 := Lib.hid ok4
    have HM4 := Lib.hid m4
    clear ok4 m4
    go_wp2_with fail
    refine (HR.out _ k4).mono ?_
    rintro e w5 ⟨A6, n6, c6, A7, n7, c7, L5, rfl, h6, h7, ok5, m5, k5⟩
    have HO5 := Lib.hid ok5
    have HM5 := Lib.hid m5
    have st1 := run_str (P := Try.prog) Try.underlying34 Try.underlying5 Try.underlying9 (h4.kept k5)
    have st2 := run_str (P := Try.prog) Try.underlying34 Try.underlying5 Try.underlying9 h6
    generalize strOfNums (outF b' 0 (srt (LL.map Ch.k))) = st at st1 st2
    have hn5 : n5 ≤ 1000 := by
      have e1 := map_len HM4.out
      rw [back_len, srt_len, List.length_map] at e1
      have e3 := h5.llen (enc := Ch.cells) (fun _ => rfl) (by omega)
      have e4 := hV.llen (enc := Ch.cells) (fun _ => rfl) (by omega)
      omega
    clear ok5 m5
    go_wp2_with fail
    refine (same_any _ _ _ L4 _ _ _ L5 _ (h5.kept k5) h7 (oks_kept HO4.out k5) HO5.out (by rw [HM4.out, HM5.out]) hn5).mono ?_
    rintro e w6 ⟨rfl, k6⟩
    go_wp2_with fail
    refine (awake_any _).mono ?_
    rintro e w7 ⟨rfl, k7⟩
    go_wp2_with fail
    go_ret
    exact ⟨rfl, (((k13.trans k4).trans k5).trans k6).trans k7⟩
  · have hap2 := hap.mono fun e w' h => none_of h he
    have hrp2 := fun w4 k4 => (hrp w4 k4).mono fun e w' h => none_of h he
    obtain ⟨z, hz⟩ : ∃ z, errA b' (LL.map Ch.k) = z := ⟨_, rfl⟩
    rw [hz] at hap2 hrp2
    have HA := Lib.hid hap2
    have HR := Lib.hid hrp2
    clear hap hrp hap2 hrp2 he hz
    have st1 := fun w' => run_str (P := Try.prog) (w := w') Try.underlying34 Try.underlying5 Try.underlying9 (l := []) (A := none) (n := 0) (c := 0) Sl.nil_
    generalize strOfNums [] = st at st1
    go_wp2_with fail
    refine HA.out.mono ?_
    rintro e w4 ⟨rfl, k4⟩
    go_wp2_with fail
    refine (HR.out _ k4).mono ?_
    rintro e w5 ⟨rfl, k5⟩
    go_wp2_with fail
    refine (same_any none 0 0 [] none 0 0 [] _ Sl.nil_ Sl.nil_ (by simp) (by simp) rfl (by omega)).mono ?_
    rintro e w6 ⟨rfl, k6⟩
    go_wp2_with fail
    refine (awake_any _).mono ?_
    rintro e w7 ⟨rfl, k7⟩
    go_wp2_with fail
    go_ret
    exact ⟨rfl, (((k13.trans k4).trans k5).trans k6).trans k7⟩

set_option maxHeartbeats 8000000 in
theorem spliceBack_any (B : Option Addr) (m d : Nat) (b : List Int) (A : Option Addr) (n c : Nat) (L : List Ch) (w : World) (hB : Sl w 1 B m d (b.map (Value.int .u8))) (h : Sl w 3 A n c (L.flatMap Ch.cells)) (hok : ∀ x ∈ L, x.ok w) :
    Calls Try.prog 5 #[.slice B m d, .slice A n c] w fun e w' => e = .returned (.bool true) ∧ Kept w w' := by
  have HOK := Lib.hid hok
  have hsh := short_any B m d b w hB
  have hB0 := short_sl hB
  have hmb : min m 80 ≤ 80 := Nat.min_le_right _ _
  have hbl : (b.take 80).length ≤ 80 := take_le
  obtain ⟨M, hM⟩ : ∃ z, min m 80 = z := ⟨_, rfl⟩
  rw [hM] at hsh hB0 hmb
  obtain ⟨b', hb'⟩ : ∃ z, b.take 80 = z := ⟨_, rfl⟩
  rw [hb'] at hB0 hbl
  have HSH := Lib.hid hsh
  clear hok hsh hM hb'
  go_enter Try.func5, Try.ntmps5
  go_wp2_with fail
  refine HSH.out.mono ?_
  rintro e w1 ⟨rfl, k1⟩
  go_wp2_with fail
  refine (few_any A n c L _ (h.kept k1) (oks_kept HOK.out k1)).mono ?_
  rintro e w2 ⟨VA, VN, VC, rfl, hVN, hV, k2⟩
  have hok1 := oks_kept (oks_few HOK.out) (k1.trans k2)
  have hfn := few_n (L := L)
  obtain ⟨LL, hLL⟩ : ∃ M, (L.take 8).map cutCh = M := ⟨_, rfl⟩
  rw [hLL] at hV hok1 hfn
  have HOK1 := Lib.hid hok1
  have HFN := Lib.hid hfn
  clear hLL hok1 hfn
  go_wp2_with fail
  refine (ours_any _ _ _ LL _ hV (by omega)).mono ?_
  rintro e w3 ⟨VA2, VC2, rfl, hV2, k3⟩
  have k13 := (k1.trans k2).trans k3
  have hap := apply_any B M d b' VA2 VN VC2 LL w3 (hB0.kept k13) (by omega) hV2 (oks_kept HOK1.out k3) (by omega) (fun x hx => Nat.le_trans (HFN.out x hx) (by omega))
  by_cases he : errA b' (LL.map Ch.k) = 0
  · obtain ⟨_, hlies⟩ := errA_lies he
    have hap2 : Calls Try.prog 14 #[.slice B M d, .slice VA2 VN VC2] w3 fun e w' => DoneOf b' (LL.map Ch.k) w3 e w' := hap.mono fun e w' h => done_of h he
    have hLl := hV.llen (enc := Ch.cells) (fun _ => rfl) (by omega)
    obtain ⟨S, hS⟩ : ∃ S, srt (LL.map Ch.k) = S := ⟨_, rfl⟩
    have hSn : S.length ≤ 8 := by rw [← hS, srt_len, List.length_map]; omega
    have hSb : ∀ c ∈ S, c.b.length ≤ 80 := by
      intro c hc
      rw [← hS] at hc
      obtain ⟨x, hx, rfl⟩ := List.mem_map.1 ((sortF_mem _).1 hc)
      have h1 := (HOK1.out x hx).1.llen1
      have h2 := HFN.out x hx
      show x.b.length ≤ 80
      omega
    unfold DoneOf at hap2
    rw [hS] at hap2 hlies
    have hol : (outF b' 0 S).length ≤ 80 + 8 * 80 := by
      have h1 := outF_len S b' 0 hlies
      have h2 : ∀ l : List Kc, (∀ c ∈ l, c.b.length ≤ 80) → (l.map (fun c => c.b.length)).sum ≤ l.length * 80 := by
        intro l
        induction l with
        | nil => intro _; simp
        | cons c l ih =>
          intro hc
          have := ih (fun x hx => hc x (by simp [hx]))
          have := hc c (by simp)
          rw [List.map_cons, List.sum_cons, List.length_cons]
          omega
      have h3 := h2 S hSb
      omega
    have hl2 := back_lies S b' 0 0 hlies
    rw [Nat.zero_add] at hl2
    have hback := back_out S b' [] 0 0 rfl hlies
    rw [List.nil_append, List.drop_zero] at hback
    have hbs := back_small b' S 0 0
    have hbn := back_len b' S 0 0
    obtain ⟨O, hO⟩ : ∃ O, outF b' 0 S = O := ⟨_, rfl⟩
    obtain ⟨K2, hK2⟩ : ∃ K, backF b' 0 0 S = K := ⟨_, rfl⟩
    rw [hO] at hap2 hol hl2 hback
    rw [hK2] at hap2 hl2 hback hbs hbn
    have he2 : errA O K2 = 0 := errA_zero (lies_err hl2) (fun c hc => by
      rw [lies_srt hl2] at hc
      obtain ⟨z, hz, hle⟩ := last_ge K2 (lies_ok _ _ _ hl2) (lies_meet _ _ _ hl2) c hc
      have := lies_last _ _ _ hl2 z hz
      omega)
    have hs2 := lies_srt hl2
    have HA := Lib.hid hap2
    have HE2 := Lib.hid he2
    have HS2 := Lib.hid hs2
    have HBK := Lib.hid hback
    have HBS := Lib.hid hbs
    have HBN := Lib.hid hbn
    clear hap hap2 he hlies hS hO hK2 hl2 he2 hs2 hback hbs hbn hSb hLl
    go_wp2_with fail
    refine HA.out.mono ?_
    rintro e w4 ⟨A4, n4, c4, A5, n5, c5, L4, rfl, h4, h5, ok4, m4, k4⟩
    have HO4 := Lib.hid ok4
    have hn4 := h4.llen1
    have hn5 : n5 ≤ 8 := by
      have e1 := map_len m4
      have e3 := h5.llen (enc := Ch.cells) (fun _ => rfl) (by omega)
      have e4 := HBN.out
      omega
    have hx4 : ∀ x ∈ L4, x.n ≤ 100000 := by
      intro x hx
      have e1 := (HO4.out x hx).1.llen1
      have e2 : x.k ∈ K2 := by rw [← m4]; exact List.mem_map.2 ⟨x, hx, rfl⟩
      have e3 : x.b.length ≤ b'.length := HBS.out _ e2
      omega
    have hap3 := apply_any A4 n4 c4 O A5 n5 c5 L4 w4 h4 (by omega) h5 ok4 (by omega) hx4
    rw [m4] at hap3
    have hap4 : Calls Try.prog 14 #[.slice A4 n4 c4, .slice A5 n5 c5] w4 fun e w' => DoneOf O K2 w4 e w' := hap3.mono fun e w' h => done_of h HE2.out
    unfold DoneOf at hap4
    rw [HS2.out, HBK.out] at hap4
    have HA4 := Lib.hid hap4
    clear ok4 m4 hn4 hx4 hap3 hap4
    go_wp2_with fail
    refine HA4.out.mono ?_
    rintro e w5 ⟨A6, n6, c6, A7, n7, c7, L5, rfl, h6, h7, ok5, m5, k5⟩
    have st1 := run_str (P := Try.prog) Try.underlying34 Try.underlying5 Try.underlying9 h6
    have st2 := run_str (P := Try.prog) Try.underlying34 Try.underlying5 Try.underlying9 (hB0.kept ((k13.trans k4).trans k5))
    generalize strOfNums b' = st at st1 st2
    clear ok5 m5
    go_wp2_with fail
    refine (awake_any _).mono ?_
    rintro e w7 ⟨rfl, k7⟩
    go_wp2_with fail
    go_ret
    exact ⟨rfl, ((k13.trans k4).trans k5).trans k7⟩
  · have hap2 := hap.mono fun e w' h => none_of h he
    obtain ⟨z, hz⟩ : ∃ z, errA b' (LL.map Ch.k) = z := ⟨_, rfl⟩
    rw [hz] at hap2 he
    have d1 : (z != 0) = true := by simpa using he
    have HA := Lib.hid hap2
    clear hap hap2 he hz
    go_wp2_with fail
    refine HA.out.mono ?_
    rintro e w4 ⟨rfl, k4⟩
    go_wp2_with fail
    refine (awake_any _).mono ?_
    rintro e w7 ⟨rfl, k7⟩
    go_wp2_with fail
    go_ret
    exact ⟨rfl, (k13.trans k4).trans k7⟩
end Go.Proofs.Ytdfipecgalnioaa
