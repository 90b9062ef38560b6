/- Names' texts (layer 5): strings.Contains and Cut at a colon, runes, Name, Plain, Split: walked. -/
import Derived.Test.YtdlgjbijnhfbhaaScanW
import Derived.Test.YtdlgjbijnhfbhaaLeadR
import Derived.Lib.Bytealg
namespace Go.Proofs.Ytdlgjbijnhfbhaa
open Go.RowKit
attribute [local go_sem ↓] Go.wp_at_zero Go.wp_at_succ

theorem indexByte_run (s : ByteArray) (c : Int) (w : World) : (callFunc 87 #[.string s, .int .u8 c]).run Try.prog w = .ok (.value (.int .i64 (Lib.indexByte s.data.toList c.toNat.toUInt8))) w := by
  rw [run_callFunc_extern Try.func87 (by kernel_rfl) (by kernel_rfl) (by kernel_rfl) (e := Extern.BytealgIndexByte.indexByte) (by kernel_rfl), Lib.run_indexByteString]
  rfl
theorem idxByte_any (s : ByteArray) (w : World) : Calls Try.prog 77 #[.string s, .int .u8 58] w fun e w' => e = .returned (.int .i64 (Lib.indexByte s.data.toList 58)) ∧ w = w' := by
  have hx := indexByte_run s 58
  have e58 : (58 : Int).toNat.toUInt8 = 58 := rfl
  rw [e58] at hx
  go_enter Try.func77, Try.ntmps77
  go_wp2
  go_ret
  exact ⟨rfl, rfl⟩
set_option maxRecDepth 100000 in
theorem idx_any (s : ByteArray) (w : World) : Calls Try.prog 64 #[.string s, .string ⟨#[58]⟩] w fun e w' => e = .returned (.int .i64 (Lib.indexByte s.data.toList 58)) ∧ w = w' := by
  go_enter Try.func64, Try.ntmps64
  go_wp2_with fail
  · rename_i hb
    go_ret
    have e : s.data.toList = [58] := by
      have := eq_of_beq hb
      rw [ByteArray.toList_eq] at this
      exact this.symm
    exact ⟨ret_int (by rw [e]; rfl), rfl⟩
  · refine (idxByte_any s w).mono ?_
    rintro e w1 ⟨rfl, rfl⟩
    go_wp2_with fail
    go_ret
    exact ⟨rfl, rfl⟩
/-- The place of the first colon; -1: none. -/
def colF (s : ByteArray) : Int := Lib.indexByte s.data.toList 58
theorem contains_any (s : ByteArray) (w : World) : Calls Try.prog 40 #[.string s, .string ⟨#[58]⟩] w fun e w' => e = .returned (.bool (decide (0 ≤ colF s))) ∧ w = w' := by
  go_enter Try.func40, Try.ntmps40
  go_wp2_with (first | (go_at_call 64; refine (idx_any _ _).mono ?_; rintro e w1 ⟨rfl, rfl⟩) | go_in)
  go_ret
  exact ⟨rfl, rfl⟩
theorem idx_lt (c : UInt8) : ∀ l : List UInt8, Lib.indexByte l c < l.length
  | [] => by simp [Lib.indexByte]
  | b :: l => by
    have := idx_lt c l
    rw [Lib.indexByte, List.length_cons]
    (repeat' split) <;> omega
theorem colF_lt (s : ByteArray) : colF s < s.size := idx_lt 58 s.data.toList
/-- What Cut at a colon gives. -/
def cutF (s : ByteArray) : ByteArray × ByteArray × Bool := if 0 ≤ colF s then (s.extract 0 (colF s).toNat, s.extract ((colF s).toNat + 1) s.size, true) else (s, ⟨#[]⟩, false)
theorem cut_any (s : ByteArray) (w : World) (hs : s.size ≤ 1000000) : Calls Try.prog 36 #[.string s, .string ⟨#[58]⟩] w fun e w' => e = .returned (.tuple #[.string (cutF s).1, .string (cutF s).2.1, .bool (cutF s).2.2]) ∧ Kept w w' := by
  have hc := colF_lt s
  by_cases h0 : 0 ≤ colF s
  · have hV : cutF s = (s.extract 0 (colF s).toNat, s.extract ((colF s).toNat + 1) s.size, true) := by unfold cutF; rw [if_pos h0]
    rw [hV]
    obtain ⟨k, hk⟩ := Int.eq_ofNat_of_zero_le h0
    rw [hk] at hc ⊢
    have hk2 : Lib.indexByte s.data.toList 58 = (k : Int) := hk
    have HK := Lib.hid hk2
    rw [Int.toNat_natCast]
    have w3 : IntKind.i64.wrap ((k : Int) + 1) = (k : Int) + 1 := IntWalk.i64_in _ (by omega)
    have l1 : (0 : Int) ≤ k := by omega
    have l2 : (k : Int) ≤ s.size := by omega
    have l3 : (k : Int) + 1 ≤ s.size := by omega
    have l5 : (0 : Int) ≤ (k : Int) + 1 := by omega
    have l4 : ((k : Int) + 1).toNat = k + 1 := by omega
    clear hV hk hk2 h0
    go_enter Try.func36, Try.ntmps36
    go_wp2_with (first | (go_at_call 64; refine (idx_any _ _).mono ?_; rintro e w1 ⟨rfl, rfl⟩; rw [HK.out]) | go_in)
    go_quiet (fail)
    all_goals go_wp2_with fail
    all_goals refine bodyPost_ret (v := .tuple #[.string (s.extract 0 k), .string (s.extract (k + 1) s.size), .bool true]) ?_ rfl ⟨rfl, by repeat (first | (with_reducible exact Kept.refl _) | (with_reducible refine Kept.drewN ?_ _) | (with_reducible refine Kept.drew ?_))⟩
    all_goals simp [results, Try.results36, go_sem]
  · have hV : cutF s = (s, ⟨#[]⟩, false) := by unfold cutF; rw [if_neg h0]
    rw [hV]
    have d1 : decide (0 ≤ Lib.indexByte s.data.toList 58) = false := by simpa [colF] using h0
    clear hV
    go_enter Try.func36, Try.ntmps36
    go_wp2_with (first | (go_at_call 64; refine (idx_any _ _).mono ?_; rintro e w1 ⟨rfl, rfl⟩) | go_in)
    refine bodyPost_ret (v := .tuple #[.string s, .string ⟨#[]⟩, .bool false]) ?_ rfl ⟨rfl, Kept.refl _⟩
    simp [results, Try.results36, go_sem]

/-- The runes of a text. -/
def runesX (s : ByteArray) : List Int := (itemsX s 0).map It.r
theorem itemsG_len (s : ByteArray) : ∀ (f pos : Nat), (itemsG s f pos).length ≤ f
  | 0, _ => Nat.le_refl _
  | f + 1, pos => by
    rw [itemsG]
    split
    · simpa using itemsG_len s f _
    · exact Nat.zero_le _
theorem runesX_len (s : ByteArray) : (runesX s).length ≤ s.size := by
  unfold runesX itemsX
  rw [List.length_map]
  exact itemsG_len s _ _
theorem bytes_sl (w : World) (e : TypeId) (s : ByteArray) (hs : s.size ≤ 1000000) : Sl (Lib.bytesWorld w e s) 1 (some ⟨w.heap.size, 0, none⟩) s.size (grownCap w s.size 0 e) ((s.data.toList.map (fun (b : UInt8) => (b.toNat : Int))).map (Value.int .u8)) := by
  have hl : s.data.toList.length = s.size := rfl
  refine ⟨by simp [hl], grownCap_ge w _ _ e, grownCap_le_maxLen w _ _ e (by unfold maxLen; omega), fun _ => ⟨w.heap.size, 0, rfl, fun j u hu => ?_⟩⟩
  have hj : j < s.size := by
    have := (List.getElem?_eq_some_iff.1 hu).1
    simpa [hl] using this
  rw [Nat.zero_add, Lib.bytesWorld_cell w e s j hj, ← hu]
  simp [List.getD, List.getElem?_eq_getElem (show j < s.data.toList.length from hj)]
theorem bytes_num (s : ByteArray) : strOfNums (s.data.toList.map (fun (b : UInt8) => (b.toNat : Int))) = s := by
  have : (s.data.toList.map (fun (b : UInt8) => (b.toNat : Int))).map (fun n => UInt8.ofNat n.toNat) = s.data.toList := by
    rw [List.map_map]
    conv => rhs; rw [← List.map_id s.data.toList]
    apply List.map_congr_left
    intro b _
    simp
  unfold strOfNums
  rw [this]
theorem bytes_kept (w : World) (e : TypeId) (s : ByteArray) : Kept w (Lib.bytesWorld w e s) :=
  ⟨rfl, rfl, rfl, by rw [Lib.bytesWorld_size]; omega, fun k hk => Lib.bytesWorld_at_old w e s k hk⟩
theorem elem_it {w : World} {n c k : Nat} {A : Option Addr} {P : List It} (h : Sl w 3 A n c (P.flatMap itC)) (hk : k < n) :
    ∃ b o p, A = some ⟨b, o, none⟩ ∧ P[k]? = some p ∧ w.cell? ⟨b, o + k * 3, none⟩ = some (.int .i32 p.r) ∧ w.cell? ⟨b, o + k * 3 + 1, none⟩ = some (.int .i64 p.off) ∧ w.cell? ⟨b, o + k * 3 + 2, none⟩ = some (.int .i64 p.n) ∧ b < w.heap.size := by
  obtain ⟨b, o, p, hA, hp, hc, hb⟩ := h.elemb (s := 3) (k := k) (fun _ => rfl) (by omega) hk
  exact ⟨b, o, p, hA, hp, hc 0 _ rfl, hc 1 _ rfl, hc 2 _ rfl, hb⟩
set_option maxHeartbeats 2000000 in
theorem runes_any (s : ByteArray) (w : World) (hs : s.size ≤ 1000000) :
    Calls Try.prog 49 #[.string s] w fun e w' => ∃ VA VC, e = .returned (.slice VA (runesX s).length VC) ∧ Sl w' 1 VA (runesX s).length VC ((runesX s).map (Value.int .i32)) ∧ Kept w w' := by
  have hcv := Lib.run_convert_string_bytes (P := Try.prog) w 9 94 5 s Try.underlying9 Try.underlying94 Try.underlying5
  have hsl := bytes_sl w 5 s hs
  have hkb := bytes_kept w 5 s
  go_enter Try.func49, Try.ntmps49
  go_wp2_with fail
  refine (items_any _ _ _ _ _ hsl hs).mono ?_
  rintro e w1 ⟨VA, VC, rfl, hI, hk1⟩
  rw [bytes_num] at hI ⊢
  have hK := hkb.trans hk1
  clear hsl hkb hcv hk1
  have hlen := itemsG_len s (s.size - 0) 0
  obtain ⟨X, hX⟩ : ∃ X, itemsX s 0 = X := ⟨_, rfl⟩
  have hR : runesX s = X.map It.r := by unfold runesX; rw [hX]
  have hN : X.length ≤ 1000000 := by rw [← hX]; unfold itemsX; omega
  rw [hX] at hI ⊢
  have HR := Lib.hid hR
  clear hX hR hlen
  obtain ⟨N, hNe⟩ : ∃ N, X.length = N := ⟨_, rfl⟩
  rw [hNe] at hI hN ⊢
  have HN := Lib.hid hNe
  clear hNe
  have hcap := hI.cap
  have hmax := hI.max
  go_wp2_with fail
  go_loopw [3, 10] (fun v u wr => ∃ (k : Nat) (UA : Option Addr) (UC : Nat), k ≤ N ∧ u = .int .i64 k ∧ v = .slice UA k UC ∧ wr.ownsRow w1.heap.size 21 1 (.slice UA k UC) k (((X.take k).map It.r).map (Value.int .i32)) ∧ Kept w1 wr) (fun _ u _ => N - (intOf u).toNat)
  case atStart => exact ⟨0, none, 0, Nat.zero_le _, rfl, rfl, World.ownsRow_nil _ _ _ _, Kept.refl _⟩
  case round =>
    obtain ⟨k, UA, UC, hkN, rfl, rfl, hown, hk⟩ := hrel
    by_cases hlt : k < N
    · obtain ⟨b, o, x, rfl, hx, x0, x1, x2, hb⟩ := elem_it (hI.kept hk) hlt
      have hsn : ((X.take (k + 1)).map It.r).map (Value.int .i32) = ((X.take k).map It.r).map (Value.int .i32) ++ [.int .i32 x.r] := by
        rw [List.take_add_one, hx]
        simp
      have HSN := Lib.hid hsn
      have n1 : (b = wr.heap.size) = False := by simp; omega
      have n1' : (wr.heap.size = b) = False := by simp; omega
      have hsz := hk.size
      clear hx hsn
      go_wp2_with (at_builtin; refine wpList_app (by rfl) _ _ (by rfl) appT_runes (by rfl) ((hown.alloc _).alloc _) (by rfl) (Sl.litg (by simp) ?_ (by omega)) ?_ ?_ ?_ ?_; (exact rfl); (exact rfl); (omega); (simp; omega); (intro v' w' hown' hgr hob; obtain ⟨VA', VC', rfl, hVs⟩ := own_sl hown'))
      have hk3 : Kept w1 w' := ((hk.alloc _).alloc _).grown hgr (fun k e => by have := hown.lt k e; omega)
      clear hgr hob hVs
      go_roundw
      case rel => exact ⟨k + 1, VA', VC', hlt, by simp, rfl, by rw [HSN.out]; exact hown', hk3⟩
      case measure =>
        simp [intOf]
        omega
    · obtain ⟨A2, c2, hVe, hV⟩ := own_sl hown
      injection hVe with e1 e2 e3
      subst e1 e3
      have hkk : k = N := by omega
      rw [List.take_of_length_le (by have := HN.out; omega)] at hV
      have hNN : N = (runesX s).length := by rw [HR.out, List.length_map, HN.out]
      have HNN := Lib.hid hNN
      subst hkk
      clear hNN
      go_wp2_with fail
      go_ret
      exact ⟨UA, UC, by rw [← HNN.out]; rfl, by rw [← HNN.out, HR.out]; exact hV, hK.trans hk⟩

/-- Is a text a name? -/
def nameF (s : ByteArray) : Bool := decide (0 < (runesX s).length) && (leadF (runesX s) == (runesX s).length)
theorem name_any (s : ByteArray) (w : World) (hs : s.size ≤ 1000000) : Calls Try.prog 39 #[.string s] w fun e w' => e = .returned (.bool (nameF s)) ∧ Kept w w' := by
  have hlen := runesX_len s
  obtain ⟨b, hb⟩ : ∃ b, nameF s = b := ⟨_, rfl⟩
  rw [hb]
  unfold nameF at hb
  go_enter Try.func39, Try.ntmps39
  go_wp2_with fail
  refine (runes_any s _ hs).mono ?_
  rintro e w1 ⟨VA, VC, rfl, hI, hk1⟩
  obtain ⟨L, hL⟩ : ∃ L, runesX s = L := ⟨_, rfl⟩
  rw [hL] at hI hb hlen ⊢
  clear hL
  obtain ⟨N, hN⟩ : ∃ N, L.length = N := ⟨_, rfl⟩
  rw [hN] at hI hb hlen ⊢
  clear hN
  by_cases h0 : 0 < N
  · have d1 : decide ((0 : Int) < N) = true := by simp; omega
    have hb2 : ((leadF L : Int) == (N : Int)) = b := by
      rw [← hb]
      simp [h0]
      rw [Bool.eq_iff_iff]
      simp
      omega
    have HB := Lib.hid hb2
    clear hb hb2
    go_wp2_with fail
    refine (lead_any _ _ _ L 0 _ hI (Int.le_refl _)).mono ?_
    rintro e w2 ⟨rfl, hk2⟩
    go_wp2_with fail
    go_ret
    exact ⟨congrArg (fun b => Ending.returned (.bool b)) HB.out, hk1.trans hk2⟩
  · have d1 : decide ((0 : Int) < N) = false := by simp; omega
    obtain rfl : false = b := by rw [← hb]; simp [h0]
    go_wp2_with fail
    go_ret
    exact ⟨rfl, hk1⟩

/-- Is it one without a colon? -/
def plainF (s : ByteArray) : Bool := nameF s && !decide (0 ≤ colF s)
theorem plain_any (s : ByteArray) (w : World) (hs : s.size ≤ 1000000) : Calls Try.prog 26 #[.string s] w fun e w' => e = .returned (.bool (plainF s)) ∧ Kept w w' := by
  cases hn : nameF s
  · have hp : plainF s = false := by unfold plainF; rw [hn]; rfl
    rw [hp]
    go_enter Try.func26, Try.ntmps26
    go_wp2_with fail
    refine (name_any s _ hs).mono ?_
    rintro e w1 ⟨rfl, hk1⟩
    rw [hn]
    go_wp2_with fail
    go_ret
    exact ⟨rfl, hk1⟩
  · have hp : plainF s = !decide (0 ≤ colF s) := by unfold plainF; rw [hn]; rfl
    rw [hp]
    clear hp
    go_enter Try.func26, Try.ntmps26
    go_wp2_with fail
    refine (name_any s _ hs).mono ?_
    rintro e w1 ⟨rfl, hk1⟩
    rw [hn]
    go_wp2_with fail
    refine (contains_any s _).mono ?_
    rintro e w2 ⟨rfl, rfl⟩
    obtain ⟨b, hb⟩ : ∃ b, decide (0 ≤ colF s) = b := ⟨_, rfl⟩
    rw [hb]
    have HB := Lib.hid hb
    clear hb
    cases b
    all_goals
      go_wp2_with fail
      go_ret
      exact ⟨by rw [HB.out]; rfl, hk1⟩
theorem extract_size (s : ByteArray) (a b : Nat) : (s.extract a b).size ≤ s.size := by
  simp [ByteArray.size_extract]
  omega
/-- Prefix, local name. -/
def splitF (s : ByteArray) : ByteArray × ByteArray × Bool :=
  if (cutF s).2.2 then (if plainF (cutF s).1 && plainF (cutF s).2.1 then ((cutF s).1, (cutF s).2.1, true) else (⟨#[]⟩, ⟨#[]⟩, false))
  else (if plainF s then (⟨#[]⟩, s, true) else (⟨#[]⟩, ⟨#[]⟩, false))
theorem cut_size (s : ByteArray) : (cutF s).1.size ≤ s.size ∧ (cutF s).2.1.size ≤ s.size := by
  unfold cutF
  split
  · exact ⟨extract_size _ _ _, extract_size _ _ _⟩
  · exact ⟨Nat.le_refl _, Nat.zero_le _⟩
theorem split_any (s : ByteArray) (w : World) (hs : s.size ≤ 1000000) : Calls Try.prog 23 #[.string s] w fun e w' => e = .returned (.tuple #[.string (splitF s).1, .string (splitF s).2.1, .bool (splitF s).2.2]) ∧ Kept w w' := by
  obtain ⟨p, l, two, hcut⟩ : ∃ p l two, cutF s = (p, l, two) := ⟨_, _, _, rfl⟩
  have hS : splitF s = if two then (if plainF p && plainF l then (p, l, true) else (⟨#[]⟩, ⟨#[]⟩, false)) else (if plainF s then (⟨#[]⟩, s, true) else (⟨#[]⟩, ⟨#[]⟩, false)) := by
    unfold splitF
    rw [hcut]
  have hcs := cut_size s
  rw [hcut] at hcs
  have h1 : p.size ≤ 1000000 := Nat.le_trans hcs.1 hs
  have h2 : l.size ≤ 1000000 := Nat.le_trans hcs.2 hs
  clear hcs
  rw [hS]
  clear hS
  cases two
  · cases hp : plainF s
    · go_enter Try.func23, Try.ntmps23
      go_wp2_with fail
      refine (cut_any s _ hs).mono ?_
      rintro e w1 ⟨rfl, hk1⟩
      rw [hcut]
      clear hcut
      go_wp2_with fail
      refine (plain_any s _ hs).mono ?_
      rintro e w2 ⟨rfl, hk2⟩
      rw [hp]
      go_wp2_with fail
      refine bodyPost_ret (v := .tuple #[.string ⟨#[]⟩, .string ⟨#[]⟩, .bool false]) ?_ rfl ⟨rfl, hk1.trans hk2⟩
      simp [results, Try.results23, go_sem]
    · go_enter Try.func23, Try.ntmps23
      go_wp2_with fail
      refine (cut_any s _ hs).mono ?_
      rintro e w1 ⟨rfl, hk1⟩
      rw [hcut]
      clear hcut
      go_wp2_with fail
      refine (plain_any s _ hs).mono ?_
      rintro e w2 ⟨rfl, hk2⟩
      rw [hp]
      go_wp2_with fail
      refine bodyPost_ret (v := .tuple #[.string ⟨#[]⟩, .string s, .bool true]) ?_ rfl ⟨rfl, hk1.trans hk2⟩
      simp [results, Try.results23, go_sem]
  · cases hp : plainF p
    · go_enter Try.func23, Try.ntmps23
      go_wp2_with fail
      refine (cut_any s _ hs).mono ?_
      rintro e w1 ⟨rfl, hk1⟩
      rw [hcut]
      clear hcut
      go_wp2_with fail
      refine (plain_any p _ h1).mono ?_
      rintro e w2 ⟨rfl, hk2⟩
      rw [hp]
      go_wp2_with fail
      refine bodyPost_ret (v := .tuple #[.string ⟨#[]⟩, .string ⟨#[]⟩, .bool false]) ?_ rfl ⟨rfl, hk1.trans hk2⟩
      simp [results, Try.results23, go_sem]
    · cases hl : plainF l
      · go_enter Try.func23, Try.ntmps23
        go_wp2_with fail
        refine (cut_any s _ hs).mono ?_
        rintro e w1 ⟨rfl, hk1⟩
        rw [hcut]
        clear hcut
        go_wp2_with fail
        refine (plain_any p _ h1).mono ?_
        rintro e w2 ⟨rfl, hk2⟩
        rw [hp]
        go_wp2_with fail
        refine (plain_any l _ h2).mono ?_
        rintro e w3 ⟨rfl, hk3⟩
        rw [hl]
        go_wp2_with fail
        refine bodyPost_ret (v := .tuple #[.string ⟨#[]⟩, .string ⟨#[]⟩, .bool false]) ?_ rfl ⟨rfl, (hk1.trans hk2).trans hk3⟩
        simp [results, Try.results23, go_sem]
      · go_enter Try.func23, Try.ntmps23
        go_wp2_with fail
        refine (cut_any s _ hs).mono ?_
        rintro e w1 ⟨rfl, hk1⟩
        rw [hcut]
        clear hcut
        go_wp2_with fail
        refine (plain_any p _ h1).mono ?_
        rintro e w2 ⟨rfl, hk2⟩
        rw [hp]
        go_wp2_with fail
        refine (plain_any l _ h2).mono ?_
        rintro e w3 ⟨rfl, hk3⟩
        rw [hl]
        go_wp2_with fail
        refine bodyPost_ret (v := .tuple #[.string p, .string l, .bool true]) ?_ rfl ⟨rfl, (hk1.trans hk2).trans hk3⟩
        simp [results, Try.results23, go_sem]
end Go.Proofs.Ytdlgjbijnhfbhaa
