/- The example of chapter 5; the law NameLead, walked. -/
import Derived.Test.YtmicmmbdkmmnoaaNameW
namespace Go.Proofs.Ytmicmmbdkmmnoaa
open Go.RowKit
attribute [local go_sem ↓] Go.wp_at_zero Go.wp_at_succ

theorem eg1 : splitF ⟨#[97, 58, 98]⟩ = (⟨#[97]⟩, ⟨#[98]⟩, true) := by decide +kernel
theorem eg2 : (splitF ⟨#[97, 58, 98, 58, 99]⟩).2.2 = false := by decide +kernel
theorem eg3 : leadF (([60, 120, 49, 32] : List Int).drop 1) = 2 := by decide +kernel
end Go.Proofs.Ytmicmmbdkmmnoaa
