/- The law NameWithin, walked. -/
import Derived.Test.YtpajcjcbfabcnaaNameL
namespace Go.Proofs.Ytpajcjcbfabcnaa
open Go.RowKit
attribute [local go_sem ↓] Go.wp_at_zero Go.wp_at_succ

theorem neq_nilFunc (F : Nat) (w : World) : (binOp .neq 34 (.func (.func F) #[] #[]) .nilFunc).run Try.prog w = .ok (.bool true) w := by
  have hu : Try.prog.underlying 34 = some (.func #[21] #[4] false) := by kernel_rfl
  have h : ∀ d : Nat, (Op.equalIn (d + 1) 34 (.func (.func F) #[] #[]) .nilFunc).run Try.prog w = .ok false w := fun d => by
    simp [Op.equalIn, run_underlying hu]
  simp only [binOp]
  simp [Op.equal, Op.maxDepth, h 9999]
theorem all_any (A : Option Addr) (n c : Nat) (l : List Int) (w : World) (h : Sl w 1 A n c (l.map (Value.int .i32))) :
    Calls Try.prog 33 #[.slice A n c, .func (.func 26) #[] #[]] w fun e w' => e = .returned (.bool (((runF nameChar l : Nat) : Int) == (l.length : Int))) ∧ Kept w w' := by
  have hnil := neq_nilFunc 26
  have HL := Lib.hid h.llen1
  go_enter Try.func33, Try.ntmps33
  go_wp2_with fail
  refine (run_any _ nameChar (enters Try.func26 (by kernel_rfl) (by kernel_rfl)) nameChar_any _ _ _ l 0 _ h (by omega)).mono ?_
  rintro e w2 ⟨rfl, hk2⟩
  go_wp2_with fail
  go_ret
  exact ⟨by rw [HL.out]; rfl, hk2⟩
/-- Is a text a name's piece? -/
def tokenF (s : ByteArray) : Bool := !(s.toList == []) && (((runF nameChar (runesX s) : Nat) : Int) == ((runesX s).length : Int))
theorem token_any (s : ByteArray) (w : World) (hs : s.size ≤ 1000000) : Calls Try.prog 17 #[.string s] w fun e w' => e = .returned (.bool (tokenF s)) ∧ Kept w w' := by
  unfold tokenF
  obtain ⟨b, hb⟩ : ∃ b, (s.toList == []) = b := ⟨_, rfl⟩
  rw [hb]
  cases b
  · go_enter Try.func17, Try.ntmps17
    go_wp2_with fail
    refine (runes_any s _ hs).mono ?_
    rintro e w1 ⟨VA, VC, rfl, hI, hk1⟩
    go_wp2_with fail
    refine (all_any _ _ _ _ _ hI).mono ?_
    rintro e w2 ⟨rfl, hk2⟩
    go_wp2_with fail
    go_ret
    exact ⟨rfl, hk1.trans hk2⟩
  · go_enter Try.func17, Try.ntmps17
    go_wp2_with fail
    go_ret
    exact ⟨rfl, Kept.refl _⟩
def shortF (s : ByteArray) : ByteArray := if 60 < s.size then s.extract 0 60 else s
theorem shortF_size (s : ByteArray) : (shortF s).size ≤ 60 := by
  unfold shortF
  split
  · simp [ByteArray.size_extract]
    omega
  · omega
theorem short_any (s : ByteArray) (w : World) : Calls Try.prog 12 #[.string s] w fun e w' => e = .returned (.string (shortF s)) ∧ Kept w w' := by
  rcases (show 60 < s.size ∨ s.size ≤ 60 by omega) with h | h
  · have hV : shortF s = s.extract 0 60 := by unfold shortF; rw [if_pos h]
    rw [hV]
    have h1 : (60 : Int) ≤ s.size := by omega
    have d1 : decide ((60 : Int) < s.size) = true := by simp; omega
    go_enter Try.func12, Try.ntmps12
    go_wp2_with fail
    go_ret
    exact ⟨rfl, Kept.refl _⟩
  · have hV : shortF s = s := by unfold shortF; rw [if_neg (by omega)]
    rw [hV]
    have d1 : decide ((60 : Int) < s.size) = false := by simp; omega
    go_enter Try.func12, Try.ntmps12
    go_wp2_with fail
    go_ret
    exact ⟨rfl, Kept.refl _⟩
theorem plain_name {s : ByteArray} (h : plainF s = true) : nameF s = true := by
  unfold plainF at h
  simp at h
  exact h.1
theorem name_token {s : ByteArray} (h : nameF s = true) : tokenF s = true := by
  unfold nameF at h
  simp at h
  obtain ⟨h0, h1⟩ := h
  have hl := runesX_len s
  unfold tokenF
  have hne : (s.toList == []) = false := by
    rw [ByteArray.toList_eq]
    have h2 : s.data.toList.length = s.size := rfl
    cases hd : s.data.toList with
    | nil => rw [hd] at h2; simp at h2; omega
    | cons a t => rfl
  rw [hne]
  unfold leadF at h1
  split at h1
  · rw [h1]
    simp
  · omega

theorem lawWithin_any (s : ByteArray) (w : World) : Calls Try.prog 5 #[.string s] w fun e w' => e = .returned (.bool true) ∧ Kept w w' := by
  have hsz := shortF_size s
  have h1 : plainF (shortF s) = true → nameF (shortF s) = true := plain_name
  have h2 : nameF (shortF s) = true → tokenF (shortF s) = true := name_token
  go_enter Try.func5, Try.ntmps5
  go_wp2_with fail
  refine (short_any _ _).mono ?_
  rintro e w1 ⟨rfl, hk1⟩
  obtain ⟨r, hr⟩ : ∃ r, shortF s = r := ⟨_, rfl⟩
  rw [hr] at hsz h1 h2 ⊢
  clear hr
  have hs : r.size ≤ 1000000 := by omega
  go_wp2_with fail
  refine (plain_any _ _ hs).mono ?_
  rintro e w2 ⟨rfl, hk2⟩
  have hK := hk1.trans hk2
  cases hn : nameF r
  · have hp : plainF r = false := by
      cases hp : plainF r
      · rfl
      · rw [h1 hp] at hn
        cases hn
    rw [hp]
    clear h1 h2 hp
    go_wp2_with fail
    refine (name_any _ _ hs).mono ?_
    rintro e w3 ⟨rfl, hk3⟩
    rw [hn]
    clear hn
    go_wp2_with fail
    refine (awake_any _).mono ?_
    rintro e w4 ⟨rfl, hk4⟩
    go_wp2_with fail
    go_ret
    exact ⟨rfl, (hK.trans hk3).trans hk4⟩
  · have ht := h2 hn
    clear h1 h2
    cases hp : plainF r
    · clear hp
      go_wp2_with fail
      refine (name_any _ _ hs).mono ?_
      rintro e w3 ⟨rfl, hk3⟩
      rw [hn]
      clear hn
      go_wp2_with fail
      refine (token_any _ _ hs).mono ?_
      rintro e w4 ⟨rfl, hk4⟩
      rw [ht]
      clear ht
      go_wp2_with fail
      refine (awake_any _).mono ?_
      rintro e w5 ⟨rfl, hk5⟩
      go_wp2_with fail
      go_ret
      exact ⟨rfl, ((hK.trans hk3).trans hk4).trans hk5⟩
    · clear hp
      go_wp2_with fail
      refine (name_any _ _ hs).mono ?_
      rintro e w3 ⟨rfl, hk3⟩
      rw [hn]
      go_wp2_with fail
      refine (name_any _ _ hs).mono ?_
      rintro e w4 ⟨rfl, hk4⟩
      rw [hn]
      clear hn
      go_wp2_with fail
      refine (token_any _ _ hs).mono ?_
      rintro e w5 ⟨rfl, hk5⟩
      rw [ht]
      clear ht
      go_wp2_with fail
      refine (awake_any _).mono ?_
      rintro e w6 ⟨rfl, hk6⟩
      go_wp2_with fail
      go_ret
      exact ⟨rfl, (((hK.trans hk3).trans hk4).trans hk5).trans hk6⟩
end Go.Proofs.Ytpajcjcbfabcnaa
