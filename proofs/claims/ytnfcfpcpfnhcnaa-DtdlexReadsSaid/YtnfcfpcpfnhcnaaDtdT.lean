/- Layer 9, the document's: Find, Quotes, bracket: walked. -/
import Derived.Test.YtnfcfpcpfnhcnaaDtdS
import Derived.Deep.OwnRows
namespace Go.Proofs.Ytnfcfpcpfnhcnaa
open Go.RowKit
attribute [local go_sem ↓] Go.wp_at_zero Go.wp_at_succ

def rfindR (fr : Nat) : Option Nat → Int
  | some k => ((fr + k : Nat) : Int)
  | none => -1
set_option maxHeartbeats 4000000 in
theorem rfind_any (A : Option Addr) (n c : Nat) (l : List Int) (fr : Nat) (s : ByteArray) (w : World) (h : Sl w 1 A n c (l.map (Value.int .i32))) (hs : 0 < s.size) (hb : s.size ≤ 1000) (hn : n ≤ 1000000) (hfr : fr ≤ n)
    (hasc : ∀ x ∈ strI s, x < 128) (hr : Rn l) :
    Calls Try.prog 50 #[.slice A n c, .int .i64 fr, .int .i64 n, .string s] w fun e w' => e = .returned (.int .i64 (rfindR fr (findF (strI s) (l.drop fr)))) ∧ Kept w w' := by
  have hcap := h.cap
  have hmax := h.max
  have HL := Lib.hid h.llen1
  have HLS := Lib.hid (strI_len s)
  have HST := Lib.hid (fun k w' (hk : Kept w w') (hle : k ≤ n) => rstarts_any A n c l k s w' (h.kept hk) hs hb hn (by omega) hasc hr)
  obtain ⟨F, hF⟩ : ∃ F, findF (strI s) (l.drop fr) = F := ⟨_, rfl⟩
  rw [hF]
  have HF := Lib.hid hF
  clear hasc hr hF
  go_enter Try.func50, Try.ntmps50
  go_wp2_with fail
  go_loopw [9] (fun i wr => ∃ k : Nat, k ≤ n + 1 ∧ fr ≤ k ∧ i = .int .i64 k ∧ Kept w wr ∧ Hid (F = (findF (strI s) (l.drop k)).map (· + (k - fr)))) (fun i _ => (n + 1) - (intOf i).toNat)
  case atStart => exact ⟨fr, by omega, Nat.le_refl _, rfl, Kept.refl _, by unfold Hid; rw [← HF.out]; simp⟩
  case round =>
    obtain ⟨k, hk, hfk, rfl, hkept, hinv⟩ := hrel
    have ws : IntKind.i64.wrap ((k : Int) + s.size) = (k : Int) + s.size := IntWalk.i64_in _ (by omega)
    by_cases hkn : k ≤ n
    · have d1 : (k : Int) ≤ n := by omega
      by_cases hlt : k + s.size ≤ n
      · have d4 : (k : Int) + s.size ≤ n := by omega
        have d5 : decide ((k : Int) + s.size ≤ n) = true := by simp; omega
        obtain ⟨q, hq⟩ : ∃ q, startsF (strI s) (l.drop k) = q := ⟨_, rfl⟩
        have hst := HST.out k wr hkept hkn
        rw [hq] at hst
        have HS := Lib.hid hst
        have HQ := Lib.hid hq
        clear hst hq
        cases q
        · go_wp2_with fail
          refine HS.out.mono ?_
          rintro e w1 ⟨rfl, k1⟩
          go_wp2_with fail
          go_roundw
          case rel => exact ⟨k + 1, by omega, by omega, by go_num, hkept.trans k1, by
            unfold Hid
            have hx : l[k]? = some (l[k]'(by have := HL.out; omega)) := List.getElem?_eq_getElem _
            rw [hinv.out, findF_step hx HQ.out, Option.map_map]
            congr 1
            funext z
            simp
            omega⟩
          case measure => simp [intOf]; omega
        · have HV : Hid (rfindR fr F = k) := by
            unfold Hid
            rw [hinv.out, findF_hit HQ.out]
            simp only [Option.map, rfindR]
            omega
          go_wp2_with fail
          refine HS.out.mono ?_
          rintro e w1 ⟨rfl, k1⟩
          go_wp2_with fail
          go_ret
          exact ⟨ret_int HV.out.symm, hkept.trans k1⟩
      · have d4 : ¬ (k : Int) + s.size ≤ n := by omega
        have d5 : decide ((k : Int) + s.size ≤ n) = false := by simp; omega
        have HV : Hid (rfindR fr F = -1) := by
          unfold Hid
          rw [hinv.out, findF_short (by rw [HLS.out, List.length_drop, HL.out]; omega)]
          rfl
        go_wp2_with fail
        go_ret
        exact ⟨ret_int HV.out.symm, hkept⟩
    · have d1 : ¬ (k : Int) ≤ n := by omega
      have d5 : decide ((k : Int) ≤ n) = false := by simp; omega
      have HV : Hid (rfindR fr F = -1) := by
        unfold Hid
        rw [hinv.out, findF_short (by rw [HLS.out, List.length_drop, HL.out]; omega)]
        rfl
      go_wp2_with fail
      go_ret
      exact ⟨ret_int HV.out.symm, hkept⟩

/-- Of each rune the quote that it stands in. -/
def quoG : Int → List Int → List Int
  | _, [] => []
  | q, x :: t => if q = 0 ∧ isQuote x = true then 0 :: quoG x t else if q ≠ 0 ∧ x = q then 0 :: quoG 0 t else q :: quoG q t
theorem quoG_len : ∀ (q : Int) (s : List Int), (quoG q s).length = s.length
  | _, [] => rfl
  | q, x :: t => by
    rw [quoG]
    split
    · simp [quoG_len]
    split
    · simp [quoG_len]
    · simp [quoG_len]
def quosF (a : Nat) (l : List Int) : List Int := List.replicate a 0 ++ quoG 0 (l.drop a)
theorem quosF_len {a : Nat} {l : List Int} (h : a ≤ l.length) : (quosF a l).length = l.length := by
  unfold quosF
  rw [List.length_append, List.length_replicate, quoG_len, List.length_drop]
  omega
theorem made_get (z : Value) (n j : Nat) (h : j < n) : (madeCells #[z] n).toList[j]? = some z := by
  rw [Array.getElem?_toList]
  unfold madeCells
  simp [h, Nat.mod_one]
/-- One store further. -/
def QInv (G : List Int) (n k : Nat) (cs : List Value) : Prop := cs.length = n ∧ (∀ j, j < k → cs[j]? = (G.map (Value.int .i32))[j]?) ∧ ∀ j, k ≤ j → j < n → cs[j]? = some (.int .i32 0)
theorem QInv.skip {G : List Int} {n k : Nat} {cs : List Value} (h : QInv G n k cs) (hk : k < n) (hG : G[k]? = some 0) : QInv G n (k + 1) cs := by
  obtain ⟨h1, h2, h3⟩ := h
  refine ⟨h1, fun j hj => ?_, fun j hj => h3 j (by omega)⟩
  by_cases e : j = k
  · subst e
    rw [h3 j (Nat.le_refl _) hk, List.getElem?_map, hG]
    rfl
  · exact h2 j (by omega)
theorem QInv.put {G : List Int} {n k : Nat} {cs : List Value} {q : Int} (h : QInv G n k cs) (hk : k < n) (hG : G[k]? = some q) : QInv G n (k + 1) (cs.set k (.int .i32 q)) := by
  obtain ⟨h1, h2, h3⟩ := h
  refine ⟨by rw [List.length_set]; exact h1, fun j hj => ?_, fun j hj hn => ?_⟩
  · by_cases e : j = k
    · subst e
      rw [List.getElem?_set_self (by omega), List.getElem?_map, hG]
      rfl
    · rw [List.getElem?_set_ne (by omega)]
      exact h2 j (by omega)
  · rw [List.getElem?_set_ne (by omega)]
    exact h3 j (by omega) hn
theorem quos_at {G : List Int} {q : Int} {l : List Int} {k : Nat} {x : Int} (h : G.drop k = quoG q (l.drop k)) (hx : l[k]? = some x) :
    (q = 0 ∧ isQuote x = true ∧ G[k]? = some 0 ∧ G.drop (k + 1) = quoG x (l.drop (k + 1))) ∨ (q ≠ 0 ∧ x = q ∧ G[k]? = some 0 ∧ G.drop (k + 1) = quoG 0 (l.drop (k + 1))) ∨
      (¬ (q = 0 ∧ isQuote x = true) ∧ ¬ (q ≠ 0 ∧ x = q) ∧ G[k]? = some q ∧ G.drop (k + 1) = quoG q (l.drop (k + 1))) := by
  rw [drop_get hx, quoG] at h
  have hd : ∀ {y : Int} {t : List Int}, G.drop k = y :: t → G[k]? = some y ∧ G.drop (k + 1) = t := fun {y t} e => by
    have h1 := congrArg (fun z => z[0]?) e
    have h2 := congrArg (fun z => z.drop 1) e
    simp only [List.getElem?_drop, Nat.add_zero, List.drop_drop, List.drop_succ_cons, List.drop_zero] at h1 h2
    exact ⟨by simpa using h1, h2⟩
  split at h
  · rename_i hc
    obtain ⟨a, b⟩ := hd h
    exact .inl ⟨hc.1, hc.2, a, b⟩
  split at h
  · rename_i hc
    obtain ⟨a, b⟩ := hd h
    exact .inr (.inl ⟨hc.1, hc.2, a, b⟩)
  · rename_i h1 h2
    obtain ⟨a, b⟩ := hd h
    exact .inr (.inr ⟨h1, h2, a, b⟩)
set_option maxHeartbeats 4000000 in
theorem rquotes_any (A : Option Addr) (n c : Nat) (l : List Int) (a : Nat) (w : World) (h : Sl w 1 A n c (l.map (Value.int .i32))) (hn : n ≤ 1000000) (ha : a ≤ n) :
    Calls Try.prog 61 #[.slice A n c, .int .i64 a] w fun e w' => ∃ VA, e = .returned (.slice VA n n) ∧ Sl w' 1 VA n n ((quosF a l).map (Value.int .i32)) ∧ Kept w w' := by
  have hcap := h.cap
  have hmax := h.max
  have hll := h.llen1
  have HL := Lib.hid hll
  have hmk : ∀ wv : World, (Instr.makeSlice 22 (.int .i64 n) (.int .i64 n)).run Try.prog wv = .ok (.slice (some ⟨wv.heap.size, 0, none⟩) n n) (wv.alloc (.cells (madeCells #[.int .i32 0] n) 21)) :=
    fun wv => run_make_row' 22 21 (.int .i32 0) 4 Try.underlying22 (by kernel_rfl) rfl .i64 .i64 n (by omega) (by omega) wv
  obtain ⟨G, hG⟩ : ∃ G, quosF a l = G := ⟨_, rfl⟩
  have hGl : G.length = n := by rw [← hG, quosF_len (by omega)]; exact hll
  have hG0 : G.drop a = quoG 0 (l.drop a) := by
    rw [← hG]
    unfold quosF
    rw [List.drop_append_of_le_length (by simp), List.drop_eq_nil_of_le (by simp), List.nil_append]
  have hGz : ∀ j, j < a → G[j]? = some 0 := fun j hj => by
    rw [← hG]
    unfold quosF
    rw [List.getElem?_append_left (by simpa using hj), List.getElem?_replicate, if_pos hj]
  rw [hG]
  have HG := Lib.hid (show _ ∧ _ ∧ _ from ⟨hGl, hG0, hGz⟩)
  clear hG hGl hG0 hGz hll
  have k0 : Kept w (w.alloc (.cells (madeCells #[.int .i32 0] n) 21)) := (Kept.refl w).alloc _
  have b0 : Blk (w.alloc (.cells (madeCells #[.int .i32 0] n) 21)) w.heap.size ((madeCells #[.int .i32 0] n).toList.toArray) 21 := by
    rw [Array.toArray_toList]
    exact Blk.new w _ _
  have q0 : QInv G n a (madeCells #[.int .i32 0] n).toList := by
    have hsz : (madeCells #[(.int .i32 0 : Value)] n).toList.length = n := by
      rw [Array.length_toList, size_madeCells]
    refine ⟨hsz, fun j hj => ?_, fun j _ hj => made_get _ _ _ hj⟩
    rw [made_get _ _ _ (by omega), List.getElem?_map, HG.out.2.2 j hj]
    rfl
  have HQ0 := Lib.hid q0
  clear q0
  go_enter Try.func61, Try.ntmps61
  go_upto_region 2 with fail
  generalize w.alloc (.cells (madeCells #[.int .i32 0] n) 21) = w1 at k0 b0 ⊢
  generalize (madeCells #[.int .i32 0] n).toList = cs0 at b0 HQ0
  obtain ⟨g, hg⟩ : ∃ g, w.heap.size = g := ⟨_, rfl⟩
  rw [hg] at b0 ⊢
  have hgw : w.heap.size ≤ g := by omega
  clear hg hmk
  go_wp2_with fail
  go_loopw [6, 7] (fun v i wr => ∃ (k : Nat) (q : Int) (cs : List Value), k ≤ n ∧ i = .int .i64 k ∧ v = .int .i32 q ∧ Blk wr g cs.toArray 21 ∧ Kept w wr ∧ Hid (QInv G n k cs ∧ G.drop k = quoG q (l.drop k))) (fun _ i _ => n - (intOf i).toNat)
  case atStart => exact ⟨a, 0, cs0, ha, rfl, rfl, b0, k0, ⟨HQ0.out, HG.out.2.1⟩⟩
  case round =>
    obtain ⟨k, q, cs, hk, rfl, rfl, hB, hkept, hinv⟩ := hrel
    by_cases hlt : k < n
    · obtain ⟨b, o, x, rfl, hx, hc, hbb⟩ := (h.kept hkept).oneb hlt
      have hst := quos_at hinv.out.2 hx
      have HX := Lib.hid hx
      clear hx
      rcases hst with ⟨rfl, hqx, hgk, hgd⟩ | ⟨hq0, rfl, hgk, hgd⟩ | ⟨hn1, hn2, hgk, hgd⟩
      · have HN := Lib.hid (show QInv G n (k + 1) cs ∧ G.drop (k + 1) = quoG x (l.drop (k + 1)) from ⟨hinv.out.1.skip hlt hgk, hgd⟩)
        clear hgk hgd
        have hx34 : x = 34 ∨ x = 39 := by
          unfold isQuote at hqx
          simpa using hqx
        clear hqx
        rcases hx34 with rfl | rfl
        · go_wp2_with fail
          go_roundw
          case rel => exact ⟨k + 1, _, cs, hlt, by go_num, rfl, hB, hkept, HN⟩
          case measure => simp [intOf]; omega
        · go_wp2_with fail
          go_roundw
          case rel => exact ⟨k + 1, _, cs, hlt, by go_num, rfl, hB, hkept, HN⟩
          case measure => simp [intOf]; omega
      · have HN := Lib.hid (show QInv G n (k + 1) cs ∧ G.drop (k + 1) = quoG 0 (l.drop (k + 1)) from ⟨hinv.out.1.skip hlt hgk, hgd⟩)
        have d0 : (x == 0) = false := by simpa using hq0
        have e0 : (x != 0) = true := by simpa using hq0
        clear hgk hgd
        go_wp2_with fail
        go_roundw
        case rel => exact ⟨k + 1, _, cs, hlt, by go_num, rfl, hB, hkept, HN⟩
        case measure => simp [intOf]; omega
      · have HN := Lib.hid (show QInv G n (k + 1) (cs.set k (.int .i32 q)) ∧ G.drop (k + 1) = quoG q (l.drop (k + 1)) from ⟨hinv.out.1.put hlt hgk, hgd⟩)
        have hcl := hinv.out.1.1
        have hck : cs.toArray[k]? = some (cs[k]'(by omega)) := by
          rw [List.getElem?_toArray]
          exact List.getElem?_eq_getElem _
        have y0 := hB.cell k
        rw [hck] at y0
        have yf := hB.frozen k
        have yl := hB.lt
        have hBN := hB.set k (.int .i32 q)
        rw [List.setIfInBounds_toArray] at hBN
        have hKN := hkept.setCell (p := ⟨g, k, none⟩) hgw (.int .i32 q)
        clear hgk hgd hck
        by_cases hq0 : q = 0
        · subst hq0
          have hnq : x ≠ 34 ∧ x ≠ 39 := by
            have : ¬ isQuote x = true := fun e => hn1 ⟨rfl, e⟩
            unfold isQuote at this
            simpa using this
          have h34 : (x == 34) = false := by simpa using hnq.1
          have h39 : (x == 39) = false := by simpa using hnq.2
          clear hn1 hn2 hnq
          go_wp2_with fail
          go_roundw
          case rel => exact ⟨k + 1, _, _, hlt, by go_num, rfl, hBN, hKN, HN⟩
          case measure => simp [intOf]; omega
        · have hxq : x ≠ q := fun e => hn2 ⟨hq0, e⟩
          have d0 : (q == 0) = false := by simpa using hq0
          have e0 : (q != 0) = true := by simpa using hq0
          have e1 : (x == q) = false := by simpa using hxq
          clear hn1 hn2 hxq hq0
          go_wp2_with fail
          go_roundw
          case rel => exact ⟨k + 1, _, _, hlt, by go_num, rfl, hBN, hKN, HN⟩
          case measure => simp [intOf]; omega
    · obtain rfl : k = n := by omega
      go_wp2_with fail
      go_ret
      refine ⟨_, rfl, ⟨by rw [List.length_map, HG.out.1]; omega, Nat.le_refl _, by unfold maxLen; omega, fun _ => ⟨g, 0, rfl, fun j u hu => ?_⟩⟩, hkept⟩
      have hj : j < k := by
        have := (List.getElem?_eq_some_iff.1 hu).1
        rw [List.length_map, HG.out.1] at this
        exact this
      rw [Nat.zero_add, hB.cell j, List.getElem?_toArray, hinv.out.1.2.1 j hj]
      exact hu
end Go.Proofs.Ytnfcfpcpfnhcnaa
