/- That both ways of parting a text give the same words; name.Words walked. -/
import Derived.Test.YtmicmmbdkmmnoaaNameV
import Derived.Test.YtmicmmbdkmmnoaaFieldsG
import Derived.Lib.MapLaws
namespace Go.Proofs.Ytmicmmbdkmmnoaa
open Go.RowKit
attribute [local go_sem ↓] Go.wp_at_zero Go.wp_at_succ

theorem get_at {s : ByteArray} {i : Nat} (h : i < s.size) : s.get! i = s[i] := by
  simp [ByteArray.get!, getElem!_pos, h]
  rfl
theorem ne_blank {b : UInt8} (h : b.toNat ≠ 32) : b ≠ 32 := fun e => h (by rw [e]; rfl)
/-- A step of the decoder: over one blank, or over bytes none of which is one. -/
theorem dec_step {s : ByteArray} {pos : Nat} (h : pos < s.size) : (s[pos] = 32 ∧ Utf8.decode s pos = (32, 1)) ∨
    ((Utf8.decode s pos).1 ≠ 32 ∧ 1 ≤ (Utf8.decode s pos).2 ∧ ∀ i, i < (Utf8.decode s pos).2 → ∃ hi : pos + i < s.size, s[pos + i] ≠ 32) := by
  rcases Nat.lt_or_ge (s[pos]'h).toNat 128 with ha | ha
  · have hd := decode_ascii s pos h ha
    by_cases hb : s[pos] = 32
    · left
      refine ⟨hb, ?_⟩
      rw [hd, hb]
      rfl
    · right
      rw [hd]
      refine ⟨fun e => hb ?_, Nat.le_refl _, fun i hi => ?_⟩
      · apply UInt8.toNat_inj.1
        exact e
      · obtain rfl : i = 0 := by simp at hi; omega
        exact ⟨h, hb⟩
  · right
    have hd := Lib.decode_at s pos
    have g0 := get_at h
    have hsh := Lib.decodeN_shape (s.size - pos) (s.get! pos).toNat (s.get! (pos + 1)).toNat (s.get! (pos + 2)).toNat (s.get! (pos + 3)).toNat
    rw [← hd, g0] at hsh
    have k0 : s[pos] ≠ 32 := ne_blank (by omega)
    rcases hsh with ⟨h1, _⟩ | ⟨_, h2, h3, h4, h5⟩ | ⟨_, h2, h3, h4, h5, _, h6⟩ | ⟨_, h2, h3, h4, h5, h6, _, h7⟩ | h1
    · omega
    · rw [h5]
      have i1 : pos + 1 < s.size := by omega
      rw [get_at i1] at h3
      refine ⟨by dsimp only; omega, by dsimp only; omega, fun i hi => ?_⟩
      dsimp only at hi
      rcases (show i = 0 ∨ i = 1 by omega) with rfl | rfl
      · exact ⟨h, k0⟩
      · exact ⟨i1, ne_blank (by omega)⟩
    · rw [h6]
      have i1 : pos + 1 < s.size := by omega
      have i2 : pos + 2 < s.size := by omega
      rw [get_at i1] at h3
      rw [get_at i2] at h4
      refine ⟨by dsimp only; omega, by dsimp only; omega, fun i hi => ?_⟩
      dsimp only at hi
      rcases (show i = 0 ∨ i = 1 ∨ i = 2 by omega) with rfl | rfl | rfl
      · exact ⟨h, k0⟩
      · exact ⟨i1, ne_blank (by omega)⟩
      · exact ⟨i2, ne_blank (by omega)⟩
    · rw [h7]
      have i1 : pos + 1 < s.size := by omega
      have i2 : pos + 2 < s.size := by omega
      have i3 : pos + 3 < s.size := by omega
      rw [get_at i1] at h3
      rw [get_at i2] at h4
      rw [get_at i3] at h5
      refine ⟨by dsimp only; omega, by dsimp only; omega, fun i hi => ?_⟩
      dsimp only at hi
      rcases (show i = 0 ∨ i = 1 ∨ i = 2 ∨ i = 3 by omega) with rfl | rfl | rfl | rfl
      · exact ⟨h, k0⟩
      · exact ⟨i1, ne_blank (by omega)⟩
      · exact ⟨i2, ne_blank (by omega)⟩
      · exact ⟨i3, ne_blank (by omega)⟩
    · rw [h1]
      refine ⟨by decide, Nat.le_refl _, fun i hi => ?_⟩
      obtain rfl : i = 0 := by simp at hi; omega
      exact ⟨h, k0⟩
theorem wordsG_skip {s : ByteArray} : ∀ (k f a pos : Nat), (∀ i, i < k → ∃ hi : pos + i < s.size, s[pos + i] ≠ 32) → wordsG s (f + k) a pos = wordsG s f a (pos + k)
  | 0, f, a, pos, _ => rfl
  | k + 1, f, a, pos, h => by
    obtain ⟨h0, h1⟩ := h 0 (by omega)
    rw [show f + (k + 1) = (f + k) + 1 by omega, wordsG_in (by simpa using h0) (by simpa using h1), wordsG_skip k f a (pos + 1) (fun i hi => by
      have := h (i + 1) (by omega)
      rwa [show pos + (i + 1) = pos + 1 + i by omega] at this), show pos + 1 + k = pos + (k + 1) by omega]
def blank32 (x : Nat) : Bool := x == 32
def ext (s : ByteArray) (x : Nat × Nat) : ByteArray := s.extract x.1 x.2
theorem spans_end (s : ByteArray) (a pos : Nat) (st : Option Nat) (acc : List (Nat × Nat)) (hp : pos = s.size) (hst : (st = none ∧ a = pos) ∨ (st = some a ∧ a < pos)) :
    (Lib.closeSpans s (acc, st)).map (ext s) = acc.map (ext s) ++ wordsG s (s.size - pos) a pos := by
  rw [wordsG_end (by omega)]
  rcases hst with ⟨rfl, rfl⟩ | ⟨rfl, h⟩
  · rw [if_neg (by omega), List.append_nil]
    rfl
  · rw [if_pos h, hp]
    simp [Lib.closeSpans, ext]
theorem spans_words (s : ByteArray) : ∀ (F pos a : Nat) (st : Option Nat) (acc : List (Nat × Nat)), s.size ≤ F + pos → pos ≤ s.size → (st = none ∧ a = pos) ∨ (st = some a ∧ a < pos) →
    (Lib.closeSpans s (Lib.spansFromP blank32 s F pos st acc)).map (ext s) = acc.map (ext s) ++ wordsG s (s.size - pos) a pos
  | 0, pos, a, st, acc, hF, hp, hst => spans_end s a pos st acc (by omega) hst
  | F + 1, pos, a, st, acc, hF, hp, hst => by
    by_cases hlt : pos < s.size
    · obtain ⟨f, hf⟩ : ∃ f, s.size - pos = f + 1 := ⟨s.size - pos - 1, by omega⟩
      rw [Lib.spansFromP.eq_def]
      dsimp only
      rw [if_pos hlt]
      rcases dec_step hlt with ⟨hb, hd⟩ | ⟨hd, hk, hall⟩
      · rw [hd]
        have hp1 : blank32 32 = true := rfl
        rw [if_pos hp1, hf, wordsG_sp hlt hb]
        have hf2 : s.size - (pos + 1) = f := by omega
        rcases hst with ⟨rfl, rfl⟩ | ⟨rfl, h⟩
        · rw [if_neg (by omega)]
          dsimp only
          rw [spans_words s F (a + 1) (a + 1) none acc (by omega) (by omega) (.inl ⟨rfl, rfl⟩), hf2]
        · rw [if_pos h]
          dsimp only
          rw [spans_words s F (pos + 1) (pos + 1) none (acc ++ [(a, pos)]) (by omega) (by omega) (.inl ⟨rfl, rfl⟩), hf2]
          simp [ext]
      · have hp1 : ¬ blank32 (Utf8.decode s pos).1 = true := by simpa [blank32] using hd
        rw [if_neg hp1]
        obtain ⟨k, hke⟩ : ∃ k, (Utf8.decode s pos).2 = k := ⟨_, rfl⟩
        rw [hke] at hk hall ⊢
        have hks : pos + k ≤ s.size := by
          obtain ⟨h1, _⟩ := hall (k - 1) (by omega)
          omega
        have hsk := wordsG_skip k (s.size - (pos + k)) a pos hall
        rw [show s.size - (pos + k) + k = s.size - pos by omega] at hsk
        rw [hsk]
        rcases hst with ⟨rfl, rfl⟩ | ⟨rfl, h⟩
        · exact spans_words s F (a + k) a (some a) acc (by omega) hks (.inr ⟨rfl, by omega⟩)
        · exact spans_words s F (pos + k) a (some a) acc (by omega) hks (.inr ⟨rfl, by omega⟩)
    · rw [Lib.spansFromP_end _ _ _ _ _ _ hlt]
      exact spans_end s a pos st acc (by omega) hst
theorem fields_words (s : ByteArray) : Lib.goFieldsP blank32 s = wordsF s := by
  have := spans_words s s.size 0 0 none [] (by omega) (by omega) (.inl ⟨rfl, rfl⟩)
  show (Lib.closeSpans s (Lib.spansFromP blank32 s s.size 0 none [])).map (ext s) = wordsF s
  rw [this]
  rfl

theorem pred_any (x : Nat) (W : World) : Calls Try.prog 43 #[.int .i32 (x : Int)] W fun e w' => e = .returned (.bool (blank32 x)) ∧ ∃ q, w' = W.drewN q := by
  have hx : ((x : Int) == 32) = blank32 x := by
    unfold blank32
    rw [Bool.eq_iff_iff]
    simp
    omega
  go_enter Try.func43, Try.ntmps43
  go_wp2
  go_ret
  exact ⟨rfl, 0, rfl⟩
theorem words_any (s : ByteArray) (w : World) (hs : s.size ≤ 1000000) :
    Calls Try.prog 24 #[.string s] w fun e w' => ∃ VA VC, e = .returned (.slice VA (wordsF s).length VC) ∧ Sl w' 1 VA (wordsF s).length VC ((wordsF s).map Value.string) ∧ Kept w w' := by
  go_enter Try.func24, Try.ntmps24
  go_wp2_with fail
  refine (fieldsFunc_runes 43 #[] (enters Try.func43 (by kernel_rfl) (by kernel_rfl)) blank32 s w (by omega) (fun W x _ _ => pred_any x W)).mono ?_
  rintro e w1 ⟨A, rfl, _, hown, hb⟩
  rw [fields_words] at hown ⊢
  obtain ⟨A2, c2, hVe, hV⟩ := own_sl hown
  injection hVe with e1 e2 e3
  subst e1 e3
  have hk : Kept w w1 := hb
  clear hown hb
  go_wp2_with fail
  go_ret
  exact ⟨_, _, rfl, hV, hk⟩
theorem words_size {s : ByteArray} : ∀ (f a pos : Nat), ∀ x ∈ wordsG s f a pos, x.size ≤ s.size
  | 0, a, pos, x, h => by
    unfold wordsG at h
    split at h
    · rw [List.mem_singleton.1 h, ByteArray.size_extract]
      omega
    · cases h
  | f + 1, a, pos, x, h => by
    unfold wordsG at h
    split at h
    · split at h
      · split at h
        · rcases List.mem_cons.1 h with rfl | h
          · rw [ByteArray.size_extract]
            omega
          · exact words_size f _ _ x h
        · exact words_size f _ _ x h
      · exact words_size f _ _ x h
    · split at h
      · rw [List.mem_singleton.1 h, ByteArray.size_extract]
        omega
      · cases h
theorem words_len {s : ByteArray} : ∀ (f a pos : Nat), (wordsG s f a pos).length ≤ f + 1
  | 0, a, pos => by
    unfold wordsG
    split <;> simp
  | f + 1, a, pos => by
    unfold wordsG
    split
    · have := words_len (s := s) f
      split
      · split
        · have := this (pos + 1) (pos + 1)
          simp
          omega
        · have := this (pos + 1) (pos + 1)
          omega
      · have := this a (pos + 1)
        omega
    · split <;> simp
end Go.Proofs.Ytmicmmbdkmmnoaa
