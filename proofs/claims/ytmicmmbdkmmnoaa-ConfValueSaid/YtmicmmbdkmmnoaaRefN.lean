/- Names' texts, the document's own answer (rubricref01.Items, rubricref05: Runes, Name, colon, Plain, Split, Token): walked. -/
import Derived.Test.YtmicmmbdkmmnoaaScanV
import Derived.Test.YtmicmmbdkmmnoaaScanB
import Derived.Test.YtmicmmbdkmmnoaaNameT
namespace Go.Proofs.Ytmicmmbdkmmnoaa
open Go.RowKit
attribute [local go_sem ↓] Go.wp_at_zero Go.wp_at_succ

/-- The item that the document names. -/
def ritO (s : ByteArray) (x : It) : It := ⟨x.r, x.off, (Utf8.decode s x.off).2⟩
def ritsX (s : ByteArray) (pos : Nat) : List It := (itemsX s pos).map (ritO s)
theorem itemAt_off (s : ByteArray) (pos : Nat) : (itemAt s pos).off = pos := by
  unfold itemAt
  split <;> rfl
theorem ritsX_cons {s : ByteArray} {pos : Nat} (h : pos < s.size) : ritsX s pos = ⟨(itemAt s pos).r, pos, (Utf8.decode s pos).2⟩ :: ritsX s (pos + (Utf8.decode s pos).2) := by
  unfold ritsX
  rw [itemsX_cons h, List.map_cons]
  simp only [ritO, itemAt_off]
theorem ritsX_end {s : ByteArray} {pos : Nat} (h : ¬ pos < s.size) : ritsX s pos = [] := by
  unfold ritsX
  rw [itemsX_end h]
  rfl
theorem ritsX_runes (s : ByteArray) : (ritsX s 0).map It.r = runesX s := by
  unfold ritsX runesX
  rw [List.map_map]
  rfl
theorem ritsX_len (s : ByteArray) : (ritsX s 0).length = (runesX s).length := by
  rw [← ritsX_runes, List.length_map]
theorem dec_le {s : ByteArray} {pos : Nat} (h : pos < s.size) : (Utf8.decode s pos).2 ≤ s.size - pos := by
  rw [Lib.decode_at]
  have hsh := Lib.decodeN_shape (s.size - pos) (s.get! pos).toNat (s.get! (pos + 1)).toNat (s.get! (pos + 2)).toNat (s.get! (pos + 3)).toNat
  rcases hsh with ⟨k0, k⟩ | ⟨k0, k1, k2, k3, k⟩ | ⟨k0, k1, k2, k3, k4, k5, k⟩ | ⟨k0, k1, k2, k3, k4, k5, k6, k⟩ | k
  all_goals
    rw [k]
    dsimp only
    omega
theorem appT_ritem : AppT Try.prog 99 102 3 := appT_mk (z := .agg #[.int .i32 0, .int .i64 0, .int .i64 0]) (bytes := 24) Try.underlying99 (by kernel_rfl) rfl (by omega) (by omega)
theorem appT_bytes2 : AppT Try.prog 89 5 1 := appT_mk (z := .int .u8 0) (bytes := 1) Try.underlying89 (by kernel_rfl) rfl (by omega) (by omega)

set_option maxHeartbeats 2000000 in
theorem ritems_any (A : Option Addr) (c : Nat) (s : ByteArray) (w : World) (h : Sl w 1 A s.size c ((bl s).map (Value.int .u8))) (hn : s.size ≤ 1000000) :
    Calls Try.prog 52 #[.slice A s.size c] w fun e w' => ∃ VA VC, e = .returned (.slice VA (ritsX s 0).length VC) ∧ Sl w' 3 VA (ritsX s 0).length VC ((ritsX s 0).flatMap itC) ∧ Kept w w' := by
  have hcap := h.cap
  have hmax := h.max
  go_enter Try.func52, Try.ntmps52
  go_wp2_with fail
  go_loopw [3, 4] (fun v u wr => ∃ (pos : Nat) (D : List It) (VA : Option Addr) (VC : Nat), pos ≤ s.size ∧ u = .int .i64 pos ∧ v = .slice VA D.length VC ∧ D.length ≤ pos ∧ wr.ownsRow w.heap.size 102 3 (.slice VA D.length VC) D.length (D.flatMap itC) ∧ Kept w wr ∧ Hid (ritsX s 0 = D ++ ritsX s pos))
    (fun _ u _ => s.size - (intOf u).toNat)
  case atStart => exact ⟨0, [], none, 0, Nat.zero_le _, rfl, rfl, Nat.le_refl _, World.ownsRow_nil _ _ _ _, Kept.refl _, rfl⟩
  case round =>
    obtain ⟨pos, D, VA, VC, hps, rfl, rfl, hD, hown, hk, hinv⟩ := hrel
    by_cases hp : pos < s.size
    · have l1 : (0 : Int) ≤ pos := by omega
      have l2 : (pos : Int) ≤ s.size := by omega
      have l3 : (pos : Int) < s.size := by omega
      have hcut := run_cut_l appT_bytes2 A s.size c pos hps
      have hsl := (h.kept hk).from1 (i := pos) hps
      have hfa := first_at s pos hp
      have hc := Lib.hid (ritsX_cons hp)
      have hd1 := dec_pos hp
      have hd2 := dec_le hp
      obtain ⟨d, hd⟩ : ∃ d, (Utf8.decode s pos).2 = d := ⟨_, rfl⟩
      obtain ⟨x, hx⟩ : ∃ x, (itemAt s pos).r = x := ⟨_, rfl⟩
      rw [hd, hx] at hfa hc
      rw [hd] at hd1 hd2
      clear hd hx
      have wa : IntKind.i64.wrap ((pos : Int) + d) = (pos : Int) + d := IntWalk.i64_in _ (by omega)
      go_wp2_with fail
      refine (first_any _ _ _ _ _ hsl (fun x hx => bl_bd s x (List.mem_of_mem_drop hx)) (by omega)).mono ?_
      rintro e w2 ⟨rfl, hk2⟩
      rw [hfa]
      clear hfa hsl
      have hown2 := own_kept hown hk2
      have hK2 := hk.trans hk2
      have hsz := hK2.size
      go_wp2_with (at_builtin; refine wpList_app (by rfl) _ _ (by rfl) appT_ritem (by rfl) (hown2.alloc _) (by rfl) (Sl.litg (by rfl) ?_ (by omega)) ?_ ?_ ?_ ?_; (exact rfl); (exact rfl); (omega); (simp; omega); (intro v' w' hown' hgr hob; obtain ⟨VA', VC', rfl, hVs⟩ := own_sl hown'))
      have hk3 : Kept w w' := (hK2.alloc _).grown hgr (fun k e => by have := hown2.lt k e; omega)
      clear hown hown2 hgr hob hVs hcut
      go_roundw
      case rel =>
        have hl1 : (D ++ [It.mk x pos d]).length = D.length + 1 := by simp
        refine ⟨pos + d, D ++ [It.mk x pos d], VA', VC', by omega, by simp, by rw [hl1], by rw [hl1]; omega, ?_, hk3, ?_⟩
        · rw [hl1, List.flatMap_append]
          simpa [itC] using hown'
        · unfold Hid
          rw [hinv.out, hc.out]
          simp
      case measure =>
        simp [intOf]
        omega
    · have l3 : decide ((pos : Int) < s.size) = false := by simp; omega
      obtain ⟨A2, c2, hVe, hV⟩ := own_sl hown
      injection hVe with e1 e2 e3
      subst e1 e3
      have hfin : ritsX s 0 = D := by rw [hinv.out, ritsX_end hp, List.append_nil]
      have HF := Lib.hid hfin
      clear hfin
      go_wp2_with fail
      go_ret
      exact ⟨VA, VC, by rw [HF.out]; rfl, by rw [HF.out]; exact hV, hk⟩

set_option maxHeartbeats 2000000 in
theorem rrunes_any (s : ByteArray) (w : World) (hs : s.size ≤ 1000000) :
    Calls Try.prog 38 #[.string s] w fun e w' => ∃ VA VC, e = .returned (.slice VA (runesX s).length VC) ∧ Sl w' 1 VA (runesX s).length VC ((runesX s).map (Value.int .i32)) ∧ Kept w w' := by
  have hcv := Lib.run_convert_string_bytes (P := Try.prog) w 9 89 5 s Try.underlying9 Try.underlying89 Try.underlying5
  have hsl := bytes_sl w 5 s hs
  have hkb := bytes_kept w 5 s
  go_enter Try.func38, Try.ntmps38
  go_wp2_with fail
  refine (ritems_any _ _ _ _ hsl hs).mono ?_
  rintro e w1 ⟨VA, VC, rfl, hI, hk1⟩
  have hK := hkb.trans hk1
  clear hsl hkb hcv hk1
  have hlen := ritsX_len s
  have hlen2 := runesX_len s
  have hR := (ritsX_runes s).symm
  obtain ⟨X, hX⟩ : ∃ X, ritsX s 0 = X := ⟨_, rfl⟩
  rw [hX] at hI hR hlen ⊢
  have hN : X.length ≤ 1000000 := by omega
  have HR := Lib.hid hR
  clear hX hR hlen
  obtain ⟨N, hNe⟩ : ∃ N, X.length = N := ⟨_, rfl⟩
  rw [hNe] at hI hN ⊢
  have HN := Lib.hid hNe
  clear hNe hlen2
  have hcap := hI.cap
  have hmax := hI.max
  go_wp2_with fail
  go_loopw [3, 10] (fun v u wr => ∃ (k : Nat) (UA : Option Addr) (UC : Nat), k ≤ N ∧ u = .int .i64 k ∧ v = .slice UA k UC ∧ wr.ownsRow w1.heap.size 21 1 (.slice UA k UC) k (((X.take k).map It.r).map (Value.int .i32)) ∧ Kept w1 wr) (fun _ u _ => N - (intOf u).toNat)
  case atStart => exact ⟨0, none, 0, Nat.zero_le _, rfl, rfl, World.ownsRow_nil _ _ _ _, Kept.refl _⟩
  case round =>
    obtain ⟨k, UA, UC, hkN, rfl, rfl, hown, hk⟩ := hrel
    by_cases hlt : k < N
    · obtain ⟨b, o, x, rfl, hx, x0, x1, x2, hb⟩ := elem_it (hI.kept hk) hlt
      have hsn : ((X.take (k + 1)).map It.r).map (Value.int .i32) = ((X.take k).map It.r).map (Value.int .i32) ++ [.int .i32 x.r] := by
        rw [List.take_add_one, hx]
        simp
      have HSN := Lib.hid hsn
      have n1 : (b = wr.heap.size) = False := by simp; omega
      have n1' : (wr.heap.size = b) = False := by simp; omega
      have hsz := hk.size
      clear hx hsn
      go_wp2_with (at_builtin; refine wpList_app (by rfl) _ _ (by rfl) appT_runes (by rfl) ((hown.alloc _).alloc _) (by rfl) (Sl.litg (by simp) ?_ (by omega)) ?_ ?_ ?_ ?_; (exact rfl); (exact rfl); (omega); (simp; omega); (intro v' w' hown' hgr hob; obtain ⟨VA', VC', rfl, hVs⟩ := own_sl hown'))
      have hk3 : Kept w1 w' := ((hk.alloc _).alloc _).grown hgr (fun k e => by have := hown.lt k e; omega)
      clear hgr hob hVs
      go_roundw
      case rel => exact ⟨k + 1, VA', VC', hlt, by simp, rfl, by rw [HSN.out]; exact hown', hk3⟩
      case measure =>
        simp [intOf]
        omega
    · obtain ⟨A2, c2, hVe, hV⟩ := own_sl hown
      injection hVe with e1 e2 e3
      subst e1 e3
      have hkk : k = N := by omega
      rw [List.take_of_length_le (by have := HN.out; omega)] at hV
      have hNN : N = (runesX s).length := by rw [HR.out, List.length_map, HN.out]
      have HNN := Lib.hid hNN
      subst hkk
      clear hNN
      go_wp2_with fail
      go_ret
      exact ⟨UA, UC, by rw [← HNN.out]; rfl, by rw [← HNN.out, HR.out]; exact hV, hK.trans hk⟩
end Go.Proofs.Ytmicmmbdkmmnoaa
