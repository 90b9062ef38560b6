/- slices.Grow, slices.Concat at bytes, walked. -/
import Derived.Test.YtdcigdkeakiknaaApp
import Derived.Lib.AppendZeros
namespace Go.Proofs.Ytdcigdkeakiknaa
open Go.RowKit

theorem appT_bytes : AppT Try.prog 40 5 1 := appT_mk (z := .int .u8 0) (bytes := 1) Try.underlying40 (by kernel_rfl) rfl (by omega) (by omega)

theorem growBytes_any (n : Nat) (hn : n ≤ 4294967296) (w : World) :
    Calls Try.prog 27 #[.slice none 0 0, .int .i64 n] w fun e w' => ∃ v, e = .returned v ∧ w'.ownsRow w.heap.size 5 1 v 0 [] ∧ Kept w w' := by
  by_cases h0 : n = 0
  · subst h0
    have hcut := fun w => run_cut_h appT_bytes none 0 0 0 (Nat.le_refl _) w
    go_enter Try.func27, Try.ntmps27
    go_wp2
    go_ret
    exact ⟨_, rfl, World.ownsRow_nil _ _ _ _, Kept.refl _⟩
  · obtain ⟨cap, cur, hge, hmax, hcs, hrun⟩ := run_zeros (ty := 40) appT_bytes Try.underlying3 w n (by omega) hn
    have HCS := Lib.hid hcs
    clear hcs
    have hcut := fun wx => run_cut_h appT_bytes (some ⟨w.heap.size, 0, none⟩) n cap 0 (Nat.zero_le _) wx
    have hcut0 := fun wx => run_cut_h appT_bytes none 0 0 0 (Nat.le_refl _) wx
    go_enter Try.func27, Try.ntmps27
    go_wp2_with (at_builtin; refine Lib.wpList_append_run _ (by rfl) _ _ _ _ (by rfl) _ _ (by rfl) (by rfl) _ _ hrun ?_)
    go_ret
    exact ⟨_, rfl, (own_row (Nat.le_refl _) hmax HCS.out).drew, ((Kept.refl _).alloc _).drew⟩

/-- Slices, and what each holds. -/
def PartsBytes (w : World) (l : List ((Option Addr × Nat × Nat) × List Value)) : Prop := ∀ p ∈ l, Sl w 1 p.1.1 p.1.2.1 p.1.2.2 p.2 ∧ p.2.all (fun u => u.oneCell') = true
def plen (l : List ((Option Addr × Nat × Nat) × List Value)) : Nat := (l.map fun p => p.1.2.1).sum
def pcell (p : (Option Addr × Nat × Nat) × List Value) : Value := .slice p.1.1 p.1.2.1 p.1.2.2
theorem plen_step {l : List ((Option Addr × Nat × Nat) × List Value)} {k : Nat} {p} (h : l[k]? = some p) : plen (l.take (k + 1)) = plen (l.take k) + p.1.2.1 := by
  unfold plen
  rw [List.take_add_one, h]
  simp
theorem plen_le (l : List ((Option Addr × Nat × Nat) × List Value)) (k : Nat) : plen (l.take k) ≤ plen l := by
  conv => rhs; rw [← List.take_append_drop k l]
  unfold plen
  rw [List.map_append, List.sum_append]
  exact Nat.le_add_right _ _
theorem concatBytes_any (A : Option Addr) (n c : Nat) (l : List ((Option Addr × Nat × Nat) × List Value)) (w : World) (h : Sl w 1 A n c (l.map pcell)) (hp : PartsBytes w l) (hn : plen l ≤ 4294967296) :
    Calls Try.prog 22 #[.slice A n c] w fun e w' => ∃ A' c', e = .returned (.slice A' (plen l) c') ∧ Sl w' 1 A' (plen l) c' (l.flatMap (·.2)) ∧ Kept w w' := by
  have hmax := h.max
  have hcap := h.cap
  have HL := Lib.hid h.llen1
  have HP := Lib.hid hp
  clear hp
  go_enter Try.func22, Try.ntmps22
  go_wp2
  go_loop [3, 11] (fun s i => ∃ k : Nat, k ≤ n ∧ i = .int .i64 k ∧ s = .int .i64 (plen (l.take k))) (fun _ i => n - (intOf i).toNat)
  case atStart => exact ⟨0, Nat.zero_le _, rfl, rfl⟩
  case round =>
    obtain ⟨k, hk, rfl, rfl⟩ := hrel
    have hle := plen_le l k
    by_cases hlt : k < n
    · obtain ⟨b, o, x, rfl, hx, hc, hb⟩ := h.oneb hlt
      have hle1 := plen_le l (k + 1)
      have HS := Lib.hid (plen_step hx)
      have hle2 : plen (l.take k) + x.1.2.1 ≤ 4294967296 := by rw [← HS.out]; omega
      have hc' : w.cell? ⟨b, o + k, none⟩ = some (.slice x.1.1 x.1.2.1 x.1.2.2) := hc
      clear hx hc hle1
      go_wp2
      go_round
      case rel => exact ⟨k + 1, by omega, by go_num, by rw [HS.out]; go_num⟩
      case measure => simp [intOf]; omega
    · obtain rfl : k = n := by omega
      have HT : Hid (plen (l.take k) = plen l) := by
        have := HL.out
        unfold Hid
        rw [List.take_of_length_le (by omega)]
      have hT := HT.out
      rw [hT]
      clear hT
      go_wp2_with fail
      refine (growBytes_any _ hn _).mono ?_
      rintro e w1 ⟨v, rfl, hown, hkept⟩
      go_wp2
      go_loopw [6, 27] (fun o i wr => ∃ m : Nat, m ≤ k ∧ i = .int .i64 m ∧ wr.ownsRow w.heap.size 5 1 o (plen (l.take m)) ((l.take m).flatMap (·.2)) ∧ Kept w wr) (fun _ i _ => k - (intOf i).toNat)
      case atStart => exact ⟨0, Nat.zero_le _, rfl, hown, hkept⟩
      case round =>
        obtain ⟨m, hm, rfl, hown1, hkept1⟩ := hrel
        by_cases hlt1 : m < k
        · obtain ⟨b, o, x, rfl, hx, hc, hb⟩ := (h.kept hkept1).oneb hlt1
          have hle1 := plen_le l (m + 1)
          have HS := Lib.hid (plen_step hx)
          have hle2 : plen (l.take m) + x.1.2.1 ≤ 4294967296 := by rw [← HS.out]; omega
          have HF : Hid ((l.take (m + 1)).flatMap (·.2) = (l.take m).flatMap (·.2) ++ x.2) := by
            unfold Hid
            rw [List.take_add_one, hx]
            simp
          obtain ⟨hsx, hox⟩ := HP.out x (List.mem_of_getElem? hx)
          have hsx1 := hsx.kept hkept1
          have hc' : wr.cell? ⟨b, o + m, none⟩ = some (.slice x.1.1 x.1.2.1 x.1.2.2) := hc
          clear hx hc hle1 hsx
          go_wp2_with (at_builtin; refine wpList_appk w (by rfl) _ _ (by rfl) appT_bytes (by rfl) hown1 hkept1 (by rfl) hsx1 ⟨hox, hle2⟩ ?_; intro v' w' hown' hk' _ _)
          go_roundw
          case rel => exact ⟨m + 1, by omega, by go_num, by rw [HS.out, HF.out]; exact hown', hk'⟩
          case measure => simp [intOf]; omega
        · obtain rfl : m = k := by omega
          have hT := HT.out
          have hL := HL.out
          rw [hT, List.take_of_length_le (by omega)] at hown1
          clear hT hL
          obtain ⟨A', c', rfl, hsl⟩ := Sl.of_own hown1
          go_wp2
          go_ret
          exact ⟨_, _, rfl, hsl, hkept1⟩

end Go.Proofs.Ytdcigdkeakiknaa
