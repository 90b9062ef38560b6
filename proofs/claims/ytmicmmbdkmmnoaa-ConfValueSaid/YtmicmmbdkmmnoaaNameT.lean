/- The law NameWithin, walked. -/
import Derived.Test.YtmicmmbdkmmnoaaNameL
namespace Go.Proofs.Ytmicmmbdkmmnoaa
open Go.RowKit
attribute [local go_sem ↓] Go.wp_at_zero Go.wp_at_succ

theorem neq_nilFunc (F : Nat) (w : World) : (binOp .neq 78 (.func (.func F) #[] #[]) .nilFunc).run Try.prog w = .ok (.bool true) w := by
  have hu : Try.prog.underlying 78 = some (.func #[21] #[4] false) := by kernel_rfl
  have h : ∀ d : Nat, (Op.equalIn (d + 1) 78 (.func (.func F) #[] #[]) .nilFunc).run Try.prog w = .ok false w := fun d => by
    simp [Op.equalIn, run_underlying hu]
  simp only [binOp]
  simp [Op.equal, Op.maxDepth, h 9999]
/-- Is a text a name's piece? -/
def tokenF (s : ByteArray) : Bool := !(s.toList == []) && (((runF nameChar (runesX s) : Nat) : Int) == ((runesX s).length : Int))
def shortF (s : ByteArray) : ByteArray := if 60 < s.size then s.extract 0 60 else s
theorem shortF_size (s : ByteArray) : (shortF s).size ≤ 60 := by
  unfold shortF
  split
  · simp [ByteArray.size_extract]
    omega
  · omega
theorem plain_name {s : ByteArray} (h : plainF s = true) : nameF s = true := by
  unfold plainF at h
  simp at h
  exact h.1
theorem name_token {s : ByteArray} (h : nameF s = true) : tokenF s = true := by
  unfold nameF at h
  simp at h
  obtain ⟨h0, h1⟩ := h
  have hl := runesX_len s
  unfold tokenF
  have hne : (s.toList == []) = false := by
    rw [ByteArray.toList_eq]
    have h2 : s.data.toList.length = s.size := rfl
    cases hd : s.data.toList with
    | nil => rw [hd] at h2; simp at h2; omega
    | cons a t => rfl
  rw [hne]
  unfold leadF at h1
  split at h1
  · rw [h1]
    simp
  · omega

end Go.Proofs.Ytmicmmbdkmmnoaa
