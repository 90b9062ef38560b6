/- Layer 14: Put: walked. -/
import Derived.Test.YtennpgdoepdboaaRefsU
namespace Go.Proofs.Ytennpgdoepdboaa
open Go.RowKit
attribute [local go_sem ↓] Go.wp_at_zero Go.wp_at_succ

theorem asc_of {s : ByteArray} (h : s.data.toList.all (fun b => decide (b.toNat < 128)) = true) : Asc s := fun i hi => by
  have hm : s[i] ∈ s.data.toList := Array.getElem_mem_toList (xs := s.data) hi
  simpa using List.all_eq_true.1 h _ hm
theorem signs_asc {p : List Int × Int} (hp : p ∈ signs) : Asc (strOfNums p.1) ∧ strI (strOfNums p.1) = p.1 ∧ (strOfNums p.1).size = p.1.length ∧ p.1.length ≤ 6 ∧ ((strOfNums p.1).toList == []) = false := by
  rw [ByteArray.toList_eq]
  simp only [signs, List.mem_cons, List.not_mem_nil, or_false] at hp
  rcases hp with rfl | rfl | rfl | rfl | rfl | rfl | rfl | rfl
  all_goals
    exact ⟨asc_of (by decide +kernel), by decide +kernel, by decide +kernel, by decide +kernel, by decide +kernel⟩
set_option maxHeartbeats 4000000 in
theorem put_any (A : Option Addr) (n c : Nat) (l : List Int) (q : Int) (w : World) (h : Sl w 1 A n c (l.map (Value.int .i32))) (hn : n ≤ 1000000) :
    Calls Try.prog 16 #[.slice A n c, .int .i32 q] w fun e w' => ∃ VA VC, e = .returned (.slice VA (putF l q 0).length VC) ∧ Sl w' 1 VA (putF l q 0).length VC ((putF l q 0).map (Value.int .i32)) ∧ Kept w w' := by
  have hcap := h.cap
  have hmax := h.max
  have HL := Lib.hid h.llen1
  have hu := Try.underlying9
  go_enter Try.func16, Try.ntmps16
  go_wp2_with fail
  go_loopw [5, 13] (fun v u wr => ∃ (i : Nat) (D : List Int) (VA : Option Addr) (VC : Nat), i ≤ n ∧ u = .int .i64 i ∧ v = .slice VA D.length VC ∧ D.length ≤ 6 * i ∧ wr.ownsRow w.heap.size 21 1 (.slice VA D.length VC) D.length (D.map (Value.int .i32)) ∧ Kept w wr ∧ Hid (putF l q 0 = D ++ putF l q i))
    (fun _ u _ => n - (intOf u).toNat)
  case atStart => exact ⟨0, [], none, 0, Nat.zero_le _, rfl, rfl, Nat.zero_le _, World.ownsRow_nil _ _ _ _, Kept.refl _, rfl⟩
  case round =>
    obtain ⟨i, D, VA, VC, hin, rfl, rfl, hD, hown0, hk, hinv⟩ := hrel
    by_cases hp0 : i < n
    · obtain ⟨b, o, x, rfl, hx, hcx, hb⟩ := (h.kept hk).oneb (k := i) hp0
      have hxd : l.getD i 0 = x := by rw [List.getD_eq_getElem?_getD, hx]; rfl
      have l0 : (0 : Int) ≤ i := by omega
      have l1 : (i : Int) < n := by omega
      have wa : IntKind.i64.wrap ((i : Int) + 1) = (i : Int) + 1 := IntWalk.i64_in _ (by omega)
      have hst := putF_step (q := q) (show i < l.length by have := HL.out; omega)
      have hsig := sign_any _ n c l i q wr (h.kept hk) hn hp0
      have hin2 := sign_in l i q
      rw [hxd] at hin2
      unfold outF at hst
      rw [hxd] at hst
      clear hx hxd
      by_cases he : signF l i q = []
      · rw [if_pos he] at hst
        rw [he] at hsig
        have HST := Lib.hid hst
        have hne : ((strOfNums ([] : List Int)).toList == []) = true := by
          rw [ByteArray.toList_eq]
          rfl
        have hsz : (strOfNums ([] : List Int)).size = 0 := rfl
        have hstr : strI (strOfNums ([] : List Int)) = [] := rfl
        have hasc : Asc (strOfNums ([] : List Int)) := asc_of rfl
        obtain ⟨S, hS⟩ : ∃ S, strOfNums ([] : List Int) = S := ⟨_, rfl⟩
        rw [hS] at hsig hasc hstr hsz hne
        have HSTR := Lib.hid hstr
        have HASC := Lib.hid hasc
        clear hst he hin2 hS hasc hstr
        go_wp2_with fail
        refine hsig.mono ?_
        rintro e w1 ⟨rfl, k1⟩
        have hk1 := hk.trans k1
        have hown1 := own_kept hown0 k1
        have hsz1 := hk1.size
        clear hown0 hsig
        go_wp2_with (at_builtin; refine wpList_app (by rfl) _ _ (by rfl) appT_runes (by rfl) (hown1.alloc _) (by rfl) (Sl.litg (by rfl) ?_ (by omega)) ?_ ?_ ?_ ?_; (exact rfl); (exact rfl); (omega); (simp; omega); (intro v' w2 hown' hgr hob; obtain ⟨VA', VC', rfl, hVs⟩ := own_sl hown'))
        have hk2 : Kept w w2 := (hk1.alloc _).grown hgr (fun k e => by have := hown1.lt k e; omega)
        have hown2 : w2.ownsRow w.heap.size 21 1 (.slice VA' (D ++ [x]).length VC') (D ++ [x]).length ((D ++ [x]).map (Value.int .i32)) := by
          rw [List.length_append, List.map_append]
          exact hown'
        have hl1 : D.length + 1 = (D ++ [x]).length := by simp
        clear hown1 hgr hob hVs hown' 
        go_wp2_with fail
        go_loopw [5] (fun v wr => ∃ (pos : Nat) (UA : Option Addr) (UC : Nat), pos ≤ S.size ∧ v = .slice UA ((D ++ [x]).length + pos) UC ∧ wr.heap[w2.heap.size]? = some (.stringIter S pos) ∧ wr.ownsRow w.heap.size 21 1 (.slice UA ((D ++ [x]).length + pos) UC) ((D ++ [x]).length + pos) (((D ++ [x]) ++ (strI S).take pos).map (Value.int .i32)) ∧ Kept w wr)
          (fun _ wr => S.size - wr.iterPos w2.heap.size)
        case atStart =>
          exact ⟨0, VA', VC', Nat.zero_le _, by first | rfl | simp, World.iter_heap w2 S 0, by show (World.alloc w2 (.stringIter S 0)).ownsRow _ _ _ _ _ _; simpa using hown2.alloc (.stringIter S 0), hk2.alloc _⟩
        case round =>
          obtain ⟨pos, UA, UC, hps, rfl, hit, hown, hkq⟩ := hrel
          by_cases hp : pos < S.size
          · exact absurd hp (by omega)
          · have hpe : pos = S.size := by omega
            have hnext : ∀ ty, (Instr.next (.pointer (some ⟨w2.heap.size, 0, none⟩)) true ty).run Try.prog wr = _ := fun ty => Lib.run_next_end_at wr w2.heap.size S pos ty hit hp
            rw [hpe, List.take_of_length_le (by rw [strI_len]; omega)] at hown
            clear hit
            subst hpe
            rw [HSTR.out, List.append_nil] at hown
            have hlen : (D ++ [x]).length + S.size = (D ++ [x]).length := by rw [hsz]; rfl
            rw [hlen] at hown ⊢
            go_wp2_with fail
            go_roundw
            case rel =>
              refine ⟨i + 1, D ++ [x], UA, UC, hp0, by simp, rfl, by omega, hown, hkq, ?_⟩
              unfold Hid
              rw [hinv.out, HST.out, List.append_assoc]
            case measure =>
              simp [intOf]
              omega
      · rw [if_neg he] at hst
        rcases hin2 with ⟨h0, _⟩ | hin2
        · exact absurd h0 he
        obtain ⟨hasc, hstr, hsz, h6, hne⟩ := signs_asc hin2
        dsimp only at hasc hstr hsz h6 hne
        obtain ⟨G, hG⟩ : ∃ G, signF l i q = G := ⟨_, rfl⟩
        rw [hG] at hst hsig hasc hstr hsz h6 hne
        obtain ⟨S, hS⟩ : ∃ S, strOfNums G = S := ⟨_, rfl⟩
        rw [hS] at hsig hasc hstr hsz hne
        have HST := Lib.hid hst
        have HSTR := Lib.hid hstr
        have HASC := Lib.hid hasc
        clear hst he hin2 hS hG hasc hstr
        go_wp2_with fail
        refine hsig.mono ?_
        rintro e w1 ⟨rfl, k1⟩
        have hk1 := hk.trans k1
        have hown1 := own_kept hown0 k1
        have hsz1 := hk1.size
        clear hown0 hsig k1
        go_wp2_with fail
        go_loopw [5] (fun v wr => ∃ (pos : Nat) (UA : Option Addr) (UC : Nat), pos ≤ S.size ∧ v = .slice UA (D.length + pos) UC ∧ wr.heap[w1.heap.size]? = some (.stringIter S pos) ∧ wr.ownsRow w.heap.size 21 1 (.slice UA (D.length + pos) UC) (D.length + pos) ((D ++ (strI S).take pos).map (Value.int .i32)) ∧ Kept w wr)
          (fun _ wr => S.size - wr.iterPos w1.heap.size)
        case atStart =>
          exact ⟨0, VA, VC, Nat.zero_le _, by first | rfl | simp, World.iter_heap w1 S 0, by show (World.alloc w1 (.stringIter S 0)).ownsRow _ _ _ _ _ _; simpa using hown1.alloc (.stringIter S 0), hk1.alloc _⟩
        case round =>
          obtain ⟨pos, UA, UC, hps, rfl, hit, hown, hkq⟩ := hrel
          by_cases hp : pos < S.size
          · have h128 := HASC.out pos hp
            have hnext : ∀ ty, (Instr.next (.pointer (some ⟨w1.heap.size, 0, none⟩)) true ty).run Try.prog wr = _ := fun ty => Lib.run_next_ascii_at wr w1.heap.size S pos ty hit hp h128
            have hkI := Lib.iterAt_heap wr w1.heap.size S pos (pos + 1) hit
            have hownI := own_iter hown hit (pos + 1)
            have hW0 := hk1.size
            have hkp : Kept w (wr.iterAt w1.heap.size S (pos + 1)) := Lib.below_iterAt hkq hW0 S (pos + 1)
            have hmu : wr.iterPos w1.heap.size = pos := iterPos_of hit
            have hsn := Lib.hid (strI_snoc hp)
            generalize wr.iterAt w1.heap.size S (pos + 1) = W1 at hnext hownI hkI hkp
            have hW := hkp.size
            have hni := own_not_iter hownI hkI
            clear hown hit
            go_wp2_with (at_builtin; refine wpList_app (by rfl) _ _ (by rfl) appT_runes (by rfl) (hownI.alloc _) (by rfl) (Sl.litg (by rfl) ?_ (by omega)) ?_ ?_ ?_ ?_; (exact rfl); (exact rfl); (omega); (simp; omega); (intro v' w' hown' hgr hob; obtain ⟨VA', VC', rfl, hVs⟩ := own_sl hown'))
            have hlt1 : w1.heap.size < W1.heap.size := (Array.getElem?_eq_some_iff.1 hkI).1
            have hit2 : w'.heap[w1.heap.size]? = some (.stringIter S (pos + 1)) :=
              ((World.grownBy.block hgr w1.heap.size (by simp; omega) (fun e => hni e.symm)).trans (Below.heap_alloc W1 _ _ hlt1)).trans hkI
            have hk2 : Kept w w' := (hkp.alloc _).grown hgr (fun k e => by have := hownI.lt k e; omega)
            clear hownI hgr hob hVs hnext hkp hkI hni
            go_roundw
            case rel => exact ⟨pos + 1, VA', VC', hp, by first | rfl | simp, hit2, by rw [hsn.out, ← List.append_assoc, List.map_append]; first | exact hown' | simpa using hown', hk2⟩
            case measure =>
              rw [hmu, iterPos_of hit2]
              omega
          · have hpe : pos = S.size := by omega
            have hnext : ∀ ty, (Instr.next (.pointer (some ⟨w1.heap.size, 0, none⟩)) true ty).run Try.prog wr = _ := fun ty => Lib.run_next_end_at wr w1.heap.size S pos ty hit hp
            rw [hpe, List.take_of_length_le (by rw [strI_len]; omega)] at hown
            clear hit
            subst hpe
            rw [HSTR.out] at hown
            have hlen : D.length + S.size = (D ++ G).length := by rw [List.length_append, hsz]
            rw [hlen] at hown ⊢
            go_wp2_with fail
            go_roundw
            case rel =>
              refine ⟨i + 1, D ++ G, UA, UC, hp0, by simp, rfl, by rw [List.length_append]; omega, hown, hkq, ?_⟩
              unfold Hid
              rw [hinv.out, HST.out, List.append_assoc]
            case measure =>
              simp [intOf]
              omega
    · have d1 : decide ((i : Int) < n) = false := by simp; omega
      obtain ⟨A2, c2, hVe, hV⟩ := own_sl hown0
      injection hVe with e1 e2 e3
      subst e1 e3
      have hfin : putF l q 0 = D := by rw [hinv.out, putF_end (by have := HL.out; omega), List.append_nil]
      have HF := Lib.hid hfin
      clear hfin
      go_wp2_with fail
      go_ret
      exact ⟨VA, VC, by rw [HF.out]; rfl, by rw [HF.out]; exact hV, hk⟩
end Go.Proofs.Ytennpgdoepdboaa
