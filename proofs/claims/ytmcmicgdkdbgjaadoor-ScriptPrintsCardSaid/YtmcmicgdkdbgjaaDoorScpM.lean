/- Rows of steps of a call's own, cut to size; their text. No program in sight but the types. -/
import Derived.Test.YtmcmicgdkdbgjaaDoorScpL
import Derived.Test.YtmcmicgdkdbgjaaDoorScpJ
namespace Go.Proofs.YtmcmicgdkdbgjaaDoor
open Go.RowKit

def Oi.sh (o : Oi) : Oi := ⟨o.k, o.A, sh6 o.m, o.c, o.p.take 6, o.B, sh6 o.n, o.d, o.q.take 6, o.N, sh40 o.a, sh100 o.t⟩
theorem sh6_le (m : Nat) : sh6 m ≤ 6 := by
  unfold sh6
  split <;> omega
theorem sl_sh6 {w : World} {A : Option Addr} {m c : Nat} {p : List Int} (h : Sl w 1 A m c (p.map intV)) : Sl w 1 A (sh6 m) c ((p.take 6).map intV) := by
  by_cases hm : 6 < m
  · rw [show sh6 m = 6 from if_pos hm]
    exact h.to1 (by omega)
  · rw [show sh6 m = m from if_neg hm, List.take_of_length_le (by have := h.llen1; omega)]
    exact h
theorem Oi.sh_ok {o : Oi} {w : World} (h : o.ok w) : o.sh.ok w := ⟨sl_sh6 h.1, sl_sh6 h.2⟩
theorem Oi.sh_sm (o : Oi) : o.sh.sm := by
  refine ⟨?_, ?_, ?_, ?_⟩
  · have := sh6_le o.m
    show sh6 o.m ≤ 1000
    omega
  · have := sh6_le o.n
    show sh6 o.n ≤ 1000
    omega
  · show (sh40 o.a).size ≤ 1000
    unfold sh40
    split
    · rw [ByteArray.size_extract]
      omega
    · omega
  · show (sh100 o.t).size ≤ 1000
    unfold sh100
    split
    · rw [ByteArray.size_extract]
      omega
    · omega
/-- What the law gathers as text. -/
def Oi.line (o : Oi) : Bs := if o.mayB then lineF o.st else []
def textB (O : List Oi) : Bs := O.flatMap fun o => o.line ++ [10]
theorem textB_push (O : List Oi) (x : Oi) : textB (O ++ [x]) = textB O ++ (x.line ++ [10]) := by simp [textB]
theorem textB_all : ∀ {O : List Oi}, O.all Oi.mayB = true → textB O = textF (O.map Oi.st)
  | [], _ => rfl
  | o :: O, h => by
    rw [List.all_cons, Bool.and_eq_true] at h
    have := textB_all h.2
    show (o.line ++ [10]) ++ textB O = (lineF o.st ++ [10]) ++ textF (O.map Oi.st)
    rw [this, Oi.line, if_pos h.1]
theorem Oi.line_len {o : Oi} {w : World} (hok : o.ok w) (hs : o.sm) : o.line.length ≤ 100040 := by
  unfold Oi.line
  split
  · rename_i h
    exact (Oi.good h hok hs).2.1
  · exact Nat.zero_le _
theorem all_push (O : List Oi) (x : Oi) : (O ++ [x]).all Oi.mayB = (O.all Oi.mayB && x.mayB) := by simp
/-- The plain step, where it stands. -/
def Oi.ov (o : Oi) : Ov := ⟨o.st.k, o.A, o.c, o.st.p, o.B, o.d, o.st.q, o.st.n, o.st.a, o.st.t⟩
theorem Oi.ov_st (o : Oi) : o.ov.st = o.st := rfl
theorem strB_back (a : ByteArray) : strB a.toList = a := cstr_eq (strB_list _)
theorem Oi.ov_cl {o : Oi} {w : World} (h : o.mayB = true) (hok : o.ok w) (hs : o.sm) : o.cl = o.ov.cl := by
  obtain ⟨_, _, h1, h2, h3, h4, h5, h6⟩ := Oi.good h hok hs
  have hp : o.st.p.length = o.m := by
    have := hok.1.llen1
    rwa [h2, List.length_map] at this
  have hq : o.st.q.length = o.n := by
    have := hok.2.llen1
    rwa [h3, List.length_map] at this
  show [Value.int .i64 o.k, .slice o.A o.m o.c, .slice o.B o.n o.d, .int .i64 o.N, .string o.a, .string o.t] = [Value.int .i64 (o.st.k : Int), .slice o.A o.st.p.length o.c, .slice o.B o.st.q.length o.d, .int .i64 (o.st.n : Int), .string (strB o.st.a), .string (strB o.st.t)]
  rw [← h1, ← h4, hp, hq, ← h5, ← h6, strB_back, strB_back]
theorem Oi.ov_ok {o : Oi} {w : World} (h : o.mayB = true) (hok : o.ok w) (hs : o.sm) : o.ov.ok w := by
  obtain ⟨_, _, h1, h2, h3, h4, h5, h6⟩ := Oi.good h hok hs
  have hp := hok.1.llen1
  have hq := hok.2.llen1
  have hA := hok.1
  have hB := hok.2
  rw [h2] at hA hp
  rw [h3] at hB hq
  rw [nat_vals] at hA hB
  rw [List.length_map] at hp hq
  refine ⟨?_, ?_⟩
  · show Sl w 1 o.A o.st.p.length o.c (o.st.p.map natV)
    rw [hp]
    exact hA
  · show Sl w 1 o.B o.st.q.length o.d (o.st.q.map natV)
    rw [hq]
    exact hB
theorem ovs_cl {w : World} : ∀ {O : List Oi}, O.all Oi.mayB = true → (∀ o ∈ O, o.ok w ∧ o.sm) → O.flatMap Oi.cl = (O.map Oi.ov).flatMap Ov.cl
  | [], _, _ => rfl
  | o :: O, h, hok => by
    rw [List.all_cons, Bool.and_eq_true] at h
    have h1 := hok o (by simp)
    rw [List.flatMap_cons, List.map_cons, List.flatMap_cons, ovs_cl h.2 fun x hx => hok x (by simp [hx]), Oi.ov_cl h.1 h1.1 h1.2]
/-- The lines, of a step as it stands. -/
theorem line_oi {o : Oi} {w : World} (hok : o.ok w) (hs : o.sm) : Calls Tryd.prog 17 #[.agg #[.int .i64 o.k, .slice o.A o.m o.c, .slice o.B o.n o.d, .int .i64 o.N, .string o.a, .string o.t]] w fun e w' => e = .returned (lineV o.mayB o.line) ∧ Kept w w' := by
  refine (line_any o.k o.A o.m o.c o.p o.B o.n o.d o.q o.N o.a o.t w hok.1 hok.2 hs.1 hs.2.1 hs.2.2.1 hs.2.2.2).mono fun e w' h => ⟨?_, h.2⟩
  rw [h.1]
  show Ending.returned (lineV o.mayB (lineF o.st)) = _
  unfold Oi.line
  cases o.mayB <;> rfl
theorem dline_oi {o : Oi} {w : World} (hm : o.mayB = true) (hok : o.ok w) (hs : o.sm) : Calls Tryd.prog 20 #[.agg #[.int .i64 o.k, .slice o.A o.m o.c, .slice o.B o.n o.d, .int .i64 o.N, .string o.a, .string o.t]] w fun e w' => e = .returned (.string (strB o.line)) ∧ Kept w w' := by
  obtain ⟨hmay, _, h1, h2, h3, h4, h5, h6⟩ := Oi.good hm hok hs
  have hA := hok.1
  have hB := hok.2
  rw [h2, nat_vals] at hA
  rw [h3, nat_vals] at hB
  have := dline_any o.st o.A o.m o.c o.B o.n o.d o.a o.t w hmay.1 hmay.2.1 hmay.2.2.1 hA hB hs.1 hs.2.1 hs.2.2.1 hs.2.2.2 ⟨h5, h6⟩
  rw [← h1, ← h4] at this
  rw [show o.line = lineF o.st from if_pos hm]
  exact this
theorem dmay_oi {o : Oi} {w : World} (hok : o.ok w) : Calls Tryd.prog 19 #[.agg #[.int .i64 o.k, .slice o.A o.m o.c, .slice o.B o.n o.d, .int .i64 o.N, .string o.a, .string o.t]] w fun e w' => e = .returned (.bool o.mayB) ∧ Kept w w' :=
  dmay_any o.k o.A o.m o.c o.p o.B o.n o.d o.q o.N o.a o.t w hok.1 hok.2
theorem short_oi {o : Oi} {w : World} (hok : o.ok w) : Calls Tryd.prog 16 #[.agg #[.int .i64 o.k, .slice o.A o.m o.c, .slice o.B o.n o.d, .int .i64 o.N, .string o.a, .string o.t]] w fun e w' => e = .returned (.agg #[.int .i64 o.sh.k, .slice o.sh.A o.sh.m o.sh.c, .slice o.sh.B o.sh.n o.sh.d, .int .i64 o.sh.N, .string o.sh.a, .string o.sh.t]) ∧ Kept w w' :=
  short24_any o.k o.A o.m o.c o.p o.B o.n o.d o.q o.N o.a o.t w hok.1 hok.2
theorem may_all {w : World} {O : List Oi} (h : O.all Oi.mayB = true) (hok : ∀ o ∈ O, o.ok w ∧ o.sm) : ∀ s ∈ O.map Oi.st, s.may := by
  intro s hs
  obtain ⟨o, ho, rfl⟩ := List.mem_map.1 hs
  exact (Oi.good (List.all_eq_true.1 h o ho) (hok o ho).1 (hok o ho).2).1
theorem ovs_st (O : List Oi) : (O.map Oi.ov).map Ov.st = O.map Oi.st := by
  rw [List.map_map]
  rfl
/-- Two rows of steps of the call's own. -/
structure Pw (W w : World) (v3 v4 : Value) (O3 O4 : List Oi) : Prop where
  o3 : w.ownsRow W.heap.size 37 6 v3 O3.length (O3.flatMap Oi.cl)
  o4 : w.ownsRow W.heap.size 38 6 v4 O4.length (O4.flatMap Oi.cl)
  ne : v3.ownBlock = none ∨ v4.ownBlock = none ∨ v3.ownBlock ≠ v4.ownBlock
  k : Kept W w
section
variable {W w w' : World} {v3 v4 v' : Value} {O3 O4 : List Oi}
theorem Pw.start (h : Kept W w) : Pw W w (.slice none 0 0) (.slice none 0 0) [] [] := ⟨World.ownsRow_nil _ _ _ _, World.ownsRow_nil _ _ _ _, .inl rfl, h⟩
theorem Pw.kept (h : Pw W w v3 v4 O3 O4) (k : Kept w w') : Pw W w' v3 v4 O3 O4 := ⟨own_kept h.o3 k, own_kept h.o4 k, h.ne, h.k.trans k⟩
theorem Pw.ne3 (h : Pw W w v3 v4 O3 O4) : v3.ownBlock = none ∨ v3.ownBlock ≠ v4.ownBlock := by
  rcases h.ne with h | h | h
  · exact .inl h
  · rw [h]
    cases hv : v3.ownBlock with
    | none => exact .inl rfl
    | some x => exact .inr (by simp)
  · exact .inr h
theorem Pw.ne4 (h : Pw W w v3 v4 O3 O4) : v4.ownBlock = none ∨ v4.ownBlock ≠ v3.ownBlock := by
  rcases h.ne with h | h | h
  · rw [h]
    cases hv : v4.ownBlock with
    | none => exact .inl rfl
    | some x => exact .inr (by simp)
  · exact .inl h
  · exact .inr (Ne.symm h)
theorem Pw.push3 (h : Pw W w v3 v4 O3 O4) {x : Oi} (hown : w'.ownsRow W.heap.size 37 6 v' (O3.length + 1) (O3.flatMap Oi.cl ++ x.cl)) (hk : Kept W w') (hg : w.grownBy w' v3.ownBlock) (hob : v'.ownBlock = v3.ownBlock ∨ ∃ q, v'.ownBlock = some q ∧ w.heap.size ≤ q) : Pw W w' v' v4 (O3 ++ [x]) O4 := by
  refine ⟨by rw [List.length_append, List.flatMap_append]; simpa using hown, h.o4.kept hg h.ne4, ?_, hk⟩
  rcases hob with e | ⟨q, e, hq⟩
  · rw [e]
    exact h.ne
  · rw [e]
    cases hv : v4.ownBlock with
    | none => exact .inr (.inl rfl)
    | some x =>
      refine .inr (.inr ?_)
      intro e
      injection e with e
      have := (h.o4.lt x hv).2
      omega
theorem Pw.push4 (h : Pw W w v3 v4 O3 O4) {x : Oi} (hown : w'.ownsRow W.heap.size 38 6 v' (O4.length + 1) (O4.flatMap Oi.cl ++ x.cl)) (hk : Kept W w') (hg : w.grownBy w' v4.ownBlock) (hob : v'.ownBlock = v4.ownBlock ∨ ∃ q, v'.ownBlock = some q ∧ w.heap.size ≤ q) : Pw W w' v3 v' O3 (O4 ++ [x]) := by
  refine ⟨h.o3.kept hg h.ne3, by rw [List.length_append, List.flatMap_append]; simpa using hown, ?_, hk⟩
  rcases hob with e | ⟨q, e, hq⟩
  · rw [e]
    exact h.ne
  · rw [e]
    cases hv : v3.ownBlock with
    | none => exact .inl rfl
    | some x =>
      refine .inr (.inr ?_)
      intro e
      injection e with e
      have := (h.o3.lt x hv).2
      omega
end
end Go.Proofs.YtmcmicgdkdbgjaaDoor
