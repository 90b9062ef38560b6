/- Changes of bytes in memory; clones; what is wrong with one: walked. -/
import Derived.Test.YtdfipecgalnioaaSplQ
import Derived.Test.YtdfipecgalnioaaApp
import Derived.Test.YtdfipecgalnioaaQuiet
import Derived.Lib.SliceRun
namespace Go.Proofs.Ytdfipecgalnioaa
open Go.RowKit

/-- A change as it lies in memory: its place, the slice that holds its bytes, these bytes. -/
structure Ch where
  f : Int
  t : Int
  A : Option Addr
  n : Nat
  c : Nat
  b : List Int
instance : Inhabited Ch := ⟨⟨0, 0, none, 0, 0, []⟩⟩
def Ch.v (x : Ch) : Value := .slice x.A x.n x.c
def Ch.cells (x : Ch) : List Value := [.int .i64 x.f, .int .i64 x.t, .slice x.A x.n x.c]
def Ch.k (x : Ch) : Kc := ⟨x.f, x.t, x.b⟩
def Ch.ok (w : World) (x : Ch) : Prop := Sl w 1 x.A x.n x.c (x.b.map (Value.int .u8)) ∧ (-9223372036854775808 ≤ x.f ∧ x.f ≤ 9223372036854775807) ∧ (-9223372036854775808 ≤ x.t ∧ x.t ≤ 9223372036854775807)
theorem Ch.ok.kept {w w' : World} {x : Ch} (h : x.ok w) (k : Kept w w') : x.ok w' := ⟨h.1.kept k, h.2⟩
theorem oks_kept {w w' : World} {L : List Ch} (h : ∀ x ∈ L, x.ok w) (k : Kept w w') : ∀ x ∈ L, x.ok w' := fun x hx => (h x hx).kept k
theorem ch_one (x : Ch) : ∀ v ∈ x.cells, v.oneCell' = true := by
  simp [Ch.cells, Value.oneCell']

theorem own_sl {w : World} {base : Nat} {e : TypeId} {s : Nat} {v : Value} {n : Nat} {xs : List Value} (h : w.ownsRow base e s v n xs) : ∃ A c, v = .slice A n c ∧ Sl w s A n c xs := Sl.of_own h
theorem appT_bytes : AppT Try.prog 34 5 1 := appT_mk (z := .int .u8 0) (bytes := 1) Try.underlying34 (by kernel_rfl) rfl (by omega) (by omega)
theorem appT_chs : AppT Try.prog 24 44 3 := appT_mk (z := .agg #[.int .i64 0, .int .i64 0, .slice none 0 0]) (bytes := 40) Try.underlying24 (by kernel_rfl) rfl (by omega) (by omega)
theorem appT_rchs : AppT Try.prog 22 49 3 := appT_mk (z := .agg #[.int .i64 0, .int .i64 0, .slice none 0 0]) (bytes := 40) Try.underlying22 (by kernel_rfl) rfl (by omega) (by omega)

theorem clone_any (A : Option Addr) (n c : Nat) (l : List Int) (w : World) (h : Sl w 1 A n c (l.map (Value.int .u8))) (hn : n ≤ 1000000) :
    Calls Try.prog 19 #[.slice A n c] w fun e w' => ∃ VA VC, e = .returned (.slice VA n VC) ∧ Sl w' 1 VA n VC (l.map (Value.int .u8)) ∧ (∀ b o, VA = some ⟨b, o, none⟩ → w.heap.size ≤ b ∧ b < w'.heap.size) ∧ Kept w w' := by
  have hnil := fun w' => Lib.run_eql_slice_nil (P := Try.prog) w' 34 5 A n c 0 0 Try.underlying34
  cases A with
  | none =>
    have h0 : n = 0 := by
      rcases Nat.eq_zero_or_pos n with h0 | h0
      · exact h0
      · obtain ⟨b, o, e, _⟩ := h.at_ h0
        cases e
    subst h0
    have hl : l.map (Value.int .u8) = [] := List.eq_nil_of_length_eq_zero (by simpa using h.len)
    have HL := Lib.hid hl
    clear hl
    go_enter Try.func19, Try.ntmps19
    go_wp2_with fail
    go_ret
    exact ⟨none, 0, rfl, by rw [HL.out]; exact Sl.nil_, (fun b o h => by cases h), Kept.refl _⟩
  | some a =>
    go_enter Try.func19, Try.ntmps19
    have hown := own_lit (w := w) (base := w.heap.size) (e := 5) (size := 1) (n := 0) (cs := []) (by rfl) (by omega) (Nat.le_refl _)
    have hk0 := (Kept.refl w).alloc (.cells #[] 5)
    go_wp2_with (at_builtin; refine wpList_appk w (by rfl) _ _ (by rfl) appT_bytes (by rfl) hown hk0 (by rfl) (h.kept hk0) ?_ ?_; (exact ⟨ints_one _ _, by omega⟩); (intro v' w' hown' hk' hgr hob; obtain ⟨VA', VC', rfl, hVs⟩ := own_sl hown'))
    go_ret
    exact ⟨VA', VC', rfl, by rw [Nat.zero_add] at hVs; exact hVs, (fun b o e => hown'.lt b (by rw [e]; rfl)), hk'⟩
/-- Is a change's place none? -/
theorem bad_any (x : Ch) (w : World) : Calls Try.prog 18 #[.agg #[.int .i64 x.f, .int .i64 x.t, .slice x.A x.n x.c]] w fun e w' => e = .returned (.bool (!okK x.k)) ∧ Kept w w' := by
  obtain ⟨f, t, A, n, c, b⟩ := x
  have HV : Hid ((!okK (Ch.k ⟨f, t, A, n, c, b⟩)) = (decide (f < 0) || decide (t < f))) := by
    show (!(!(decide (f < 0) || decide (t < f)))) = _
    rw [Bool.not_not]
  dsimp only
  by_cases h1 : f < 0
  · have d1 : decide (f < 0) = true := by simpa using h1
    go_enter Try.func18, Try.ntmps18
    go_wp2_with fail
    go_ret
    exact ⟨ret_bool (by rw [HV.out, d1]; rfl), (Kept.refl _).alloc _⟩
  · have d1 : decide (f < 0) = false := by simpa using h1
    go_enter Try.func18, Try.ntmps18
    go_wp2_with fail
    go_ret
    exact ⟨ret_bool (by rw [HV.out, d1]; rfl), (Kept.refl _).alloc _⟩
end Go.Proofs.Ytdfipecgalnioaa
