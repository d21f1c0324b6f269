/- The reference's order Cmp, and the five orders of the laws: what they answer; they keep all memory that there was. -/
import Derived.Test.YtnofckgnnpmiiaaFr
namespace Go.Proofs.Ytnofckgnnpmiiaa
open Go.RowKit Go.Shelf
attribute [local go_sem ↓] Go.wp_at_zero Go.wp_at_succ

/-- how far a number is from 0 -/
def sizeR (k : Int) : Int := if k < 0 then IntKind.u64.wrap (RowKit.wrap64 (-k)) else IntKind.u64.wrap k
/-- what an order looks at -/
def keyR (o k : Int) : Int :=
  if o = 0 then IntKind.u64.wrap (IntKind.u64.wrap k + 9223372036854775808)
  else if o = 1 then sizeR k
  else if o = 2 then - IntKind.u64.wrap (IntKind.u64.wrap k + 9223372036854775808)
  else if o = 3 then (IntKind.u64.wrap k).tmod 4
  else 0
def cmpR (o : Int) (a b : Item) : Int := if keyR o a.1 < keyR o b.1 then -1 else if keyR o b.1 < keyR o a.1 then 1 else 0

theorem size_ok (k : Int) (w : World) : Calls Try.prog 58 #[.int .i64 k] w (fun e w' => e = .returned (.int .u64 (sizeR k)) ∧ w' = w) := by
  by_cases h : k < 0
  · have he : Hid (sizeR k = IntKind.u64.wrap (RowKit.wrap64 (-k))) := if_pos h
    go_enter Try.func58, Try.ntmps58
    go_wp2
    go_ret
    exact ⟨by rw [he.out]; rfl, rfl⟩
  · have he : Hid (sizeR k = IntKind.u64.wrap k) := if_neg h
    go_enter Try.func58, Try.ntmps58
    go_wp2
    go_ret
    exact ⟨by rw [he.out]; rfl, rfl⟩

set_option maxRecDepth 100000 in
theorem cmp_ok (o : Int) (a b : Item) (w : World) : Calls Try.prog 23 #[.int .i64 o, EI.val a, EI.val b] w (fun e w' => e = .returned (.int .i64 (cmpR o a b)) ∧ Keep (fun _ => False) w w') := by
  show Calls Try.prog 23 #[.int .i64 o, .agg #[.int .i64 a.1, .int .i64 a.2], .agg #[.int .i64 b.1, .int .i64 b.2]] w _
  have K : ∀ n, Hid (Keep (fun _ => False) w (((w.alloc (.cells #[.int .i64 a.1, .int .i64 a.2] 27)).alloc (.cells #[.int .i64 b.1, .int .i64 b.2] 27)).drewN n)) := fun n => (((Keep.refl _ w).alloc _).alloc _).drewN n
  have K' : Hid (Keep (fun _ => False) w (((w.alloc (.cells #[.int .i64 a.1, .int .i64 a.2] 27)).alloc (.cells #[.int .i64 b.1, .int .i64 b.2] 27)))) := (((Keep.refl _ w).alloc _).alloc _)
  by_cases h0 : o = 0
  · subst h0
    have E : ∀ k, Hid (keyR 0 k = IntKind.u64.wrap (IntKind.u64.wrap k + 9223372036854775808)) := fun k => by unfold Hid; simp [keyR]
    obtain ⟨X, hX⟩ : ∃ X, Hid (IntKind.u64.wrap (IntKind.u64.wrap a.1 + 9223372036854775808) = X) := ⟨_, Lib.hid rfl⟩
    obtain ⟨Y, hY⟩ : ∃ Y, Hid (IntKind.u64.wrap (IntKind.u64.wrap b.1 + 9223372036854775808) = Y) := ⟨_, Lib.hid rfl⟩
    have Ex : Hid (keyR 0 a.1 = X) := by unfold Hid; rw [(E a.1).out, hX.out]
    have Ey : Hid (keyR 0 b.1 = Y) := by unfold Hid; rw [(E b.1).out, hY.out]
    clear E
    go_enter Try.func23, Try.ntmps23
    go_wp2_with (fail)
    go_quiet (fail)
    try rw [hX.out]
    try rw [hY.out]
    rcases Int.lt_trichotomy X Y with h | h | h
    · have HR : Hid (cmpR 0 a b = -1) := by unfold Hid cmpR; rw [Ex.out, Ey.out]; exact if_pos (by omega)
      go_wp2
      go_ret
      refine ⟨?_, (K _).out⟩
      rw [HR.out]
      rfl
    · have HR : Hid (cmpR 0 a b = 0) := by unfold Hid cmpR; rw [Ex.out, Ey.out]; rw [if_neg (by omega), if_neg (by omega)]
      subst h
      go_wp2
      go_ret
      refine ⟨?_, (K _).out⟩
      rw [HR.out]
      rfl
    · have HR : Hid (cmpR 0 a b = 1) := by unfold Hid cmpR; rw [Ex.out, Ey.out]; rw [if_neg (by omega), if_pos (by omega)]
      go_wp2
      go_ret
      refine ⟨?_, (K _).out⟩
      rw [HR.out]
      rfl
  by_cases h1 : o = 1
  · subst h1
    have E : ∀ k, Hid (keyR 1 k = sizeR k) := fun k => by unfold Hid; simp [keyR]
    obtain ⟨X, hX⟩ : ∃ X, Hid (sizeR a.1 = X) := ⟨_, Lib.hid rfl⟩
    obtain ⟨Y, hY⟩ : ∃ Y, Hid (sizeR b.1 = Y) := ⟨_, Lib.hid rfl⟩
    have Ex : Hid (keyR 1 a.1 = X) := by unfold Hid; rw [(E a.1).out, hX.out]
    have Ey : Hid (keyR 1 b.1 = Y) := by unfold Hid; rw [(E b.1).out, hY.out]
    clear E
    go_enter Try.func23, Try.ntmps23
    go_wp2_with (fail)
    go_quiet ((go_at_call 58; refine Calls.quiet_of_same (size_ok _ _)))
    try rw [hX.out]
    try rw [hY.out]
    rcases Int.lt_trichotomy X Y with h | h | h
    · have HR : Hid (cmpR 1 a b = -1) := by unfold Hid cmpR; rw [Ex.out, Ey.out]; exact if_pos (by omega)
      go_wp2
      go_ret
      refine ⟨?_, (K _).out⟩
      rw [HR.out]
      rfl
    · have HR : Hid (cmpR 1 a b = 0) := by unfold Hid cmpR; rw [Ex.out, Ey.out]; rw [if_neg (by omega), if_neg (by omega)]
      subst h
      go_wp2
      go_ret
      refine ⟨?_, (K _).out⟩
      rw [HR.out]
      rfl
    · have HR : Hid (cmpR 1 a b = 1) := by unfold Hid cmpR; rw [Ex.out, Ey.out]; rw [if_neg (by omega), if_pos (by omega)]
      go_wp2
      go_ret
      refine ⟨?_, (K _).out⟩
      rw [HR.out]
      rfl
  by_cases h2 : o = 2
  · subst h2
    have E : ∀ k, Hid (keyR 2 k = -(IntKind.u64.wrap (IntKind.u64.wrap k + 9223372036854775808))) := fun k => by unfold Hid; simp [keyR]
    obtain ⟨X, hX⟩ : ∃ X, Hid (IntKind.u64.wrap (IntKind.u64.wrap a.1 + 9223372036854775808) = X) := ⟨_, Lib.hid rfl⟩
    obtain ⟨Y, hY⟩ : ∃ Y, Hid (IntKind.u64.wrap (IntKind.u64.wrap b.1 + 9223372036854775808) = Y) := ⟨_, Lib.hid rfl⟩
    have Ex : Hid (keyR 2 a.1 = -X) := by unfold Hid; rw [(E a.1).out, hX.out]
    have Ey : Hid (keyR 2 b.1 = -Y) := by unfold Hid; rw [(E b.1).out, hY.out]
    clear E
    go_enter Try.func23, Try.ntmps23
    go_wp2_with (fail)
    go_quiet (fail)
    try rw [hX.out]
    try rw [hY.out]
    rcases Int.lt_trichotomy X Y with h | h | h
    · have HR : Hid (cmpR 2 a b = 1) := by unfold Hid cmpR; rw [Ex.out, Ey.out]; rw [if_neg (by omega), if_pos (by omega)]
      go_wp2
      go_ret
      refine ⟨?_, (K _).out⟩
      rw [HR.out]
      rfl
    · have HR : Hid (cmpR 2 a b = 0) := by unfold Hid cmpR; rw [Ex.out, Ey.out]; rw [if_neg (by omega), if_neg (by omega)]
      subst h
      go_wp2
      go_ret
      refine ⟨?_, (K _).out⟩
      rw [HR.out]
      rfl
    · have HR : Hid (cmpR 2 a b = -1) := by unfold Hid cmpR; rw [Ex.out, Ey.out]; exact if_pos (by omega)
      go_wp2
      go_ret
      refine ⟨?_, (K _).out⟩
      rw [HR.out]
      rfl
  by_cases h3 : o = 3
  · subst h3
    have E : ∀ k, Hid (keyR 3 k = (IntKind.u64.wrap k).tmod 4) := fun k => by unfold Hid; simp [keyR]
    obtain ⟨X, hX⟩ : ∃ X, Hid ((IntKind.u64.wrap a.1).tmod 4 = X) := ⟨_, Lib.hid rfl⟩
    obtain ⟨Y, hY⟩ : ∃ Y, Hid ((IntKind.u64.wrap b.1).tmod 4 = Y) := ⟨_, Lib.hid rfl⟩
    have Ex : Hid (keyR 3 a.1 = X) := by unfold Hid; rw [(E a.1).out, hX.out]
    have Ey : Hid (keyR 3 b.1 = Y) := by unfold Hid; rw [(E b.1).out, hY.out]
    clear E
    go_enter Try.func23, Try.ntmps23
    go_wp2_with (fail)
    go_quiet (fail)
    try rw [hX.out]
    try rw [hY.out]
    rcases Int.lt_trichotomy X Y with h | h | h
    · have HR : Hid (cmpR 3 a b = -1) := by unfold Hid cmpR; rw [Ex.out, Ey.out]; exact if_pos (by omega)
      go_wp2
      go_ret
      refine ⟨?_, (K _).out⟩
      rw [HR.out]
      rfl
    · have HR : Hid (cmpR 3 a b = 0) := by unfold Hid cmpR; rw [Ex.out, Ey.out]; rw [if_neg (by omega), if_neg (by omega)]
      subst h
      go_wp2
      go_ret
      refine ⟨?_, (K _).out⟩
      rw [HR.out]
      rfl
    · have HR : Hid (cmpR 3 a b = 1) := by unfold Hid cmpR; rw [Ex.out, Ey.out]; rw [if_neg (by omega), if_pos (by omega)]
      go_wp2
      go_ret
      refine ⟨?_, (K _).out⟩
      rw [HR.out]
      rfl
  have HR : Hid (cmpR o a b = 0) := by unfold Hid cmpR keyR; simp [h0, h1, h2, h3]
  go_enter Try.func23, Try.ntmps23
  go_wp2_with (fail)
  go_ret
  refine ⟨?_, K'.out⟩
  rw [HR.out]
  rfl

/-- the answer of the order of a number -/
def byC (o : Int) (a b : Item) : Int := if o = 1 then 7 * cmpR o a b else if o = 3 then 1099511627776 * cmpR o a b else cmpR o a b
def byF (o : Int) : FuncId := if o = 0 then 16 else if o = 1 then 54 else if o = 2 then 55 else if o = 3 then 56 else 57
theorem cmpR_cases (o : Int) (a b : Item) : cmpR o a b = -1 ∨ cmpR o a b = 0 ∨ cmpR o a b = 1 := by
  unfold cmpR; split
  · exact .inl rfl
  · split
    · exact .inr (.inr rfl)
    · exact .inr (.inl rfl)
theorem byC_neg (o : Int) (a b : Item) : byC o a b < 0 ↔ cmpR o a b < 0 := by unfold byC; split <;> (try split) <;> omega
theorem byC_zero (o : Int) (a b : Item) : byC o a b = 0 ↔ cmpR o a b = 0 := by unfold byC; split <;> (try split) <;> omega

theorem by_ok (o : Int) (w : World) : Calls Try.prog 15 #[.int .i64 o] w (fun e w' => e = .returned (.func (.func (byF o)) #[] #[]) ∧ w' = w) := by
  by_cases h0 : o = 0
  · subst h0
    go_enter Try.func15, Try.ntmps15
    go_wp2
    go_ret
    exact ⟨rfl, rfl⟩
  by_cases h1 : o = 1
  · subst h1
    go_enter Try.func15, Try.ntmps15
    go_wp2
    go_ret
    exact ⟨rfl, rfl⟩
  by_cases h2 : o = 2
  · subst h2
    go_enter Try.func15, Try.ntmps15
    go_wp2
    go_ret
    exact ⟨rfl, rfl⟩
  by_cases h3 : o = 3
  · subst h3
    go_enter Try.func15, Try.ntmps15
    go_wp2
    go_ret
    exact ⟨rfl, rfl⟩
  have HF : Hid (byF o = 57) := by unfold Hid byF; rw [if_neg h0, if_neg h1, if_neg h2, if_neg h3]
  go_enter Try.func15, Try.ntmps15
  go_wp2
  go_ret
  rw [HF.out]
  exact ⟨rfl, rfl⟩

theorem by16 (a b : Item) (w : World) : Calls Try.prog 16 #[EI.val a, EI.val b] w (fun e w' => e = .returned (.int .i64 (byC 0 a b)) ∧ Keep (fun _ => False) w w') := by
  have HC := cmp_ok 0 a b
  have HR := Lib.hid (cmpR_cases 0 a b)
  have HB : Hid (byC 0 a b = cmpR 0 a b) := rfl
  generalize cmpR 0 a b = r at HC HR HB ⊢
  rw [HB.out]
  clear HB
  have K' : Hid (Keep (fun _ => False) w (((w.alloc (.cells #[.int .i64 a.1, .int .i64 a.2] 27)).alloc (.cells #[.int .i64 b.1, .int .i64 b.2] 27)))) := (((Keep.refl _ w).alloc _).alloc _)
  show Calls Try.prog 16 #[.agg #[.int .i64 a.1, .int .i64 a.2], .agg #[.int .i64 b.1, .int .i64 b.2]] w _
  have HC1 : ∀ w, Calls Try.prog 23 #[.int .i64 0, .agg #[.int .i64 a.1, .int .i64 a.2], .agg #[.int .i64 b.1, .int .i64 b.2]] w _ := HC
  have HC2 := Lib.hid HC1
  clear HC HC1
  go_enter Try.func16, Try.ntmps16
  go_wp2_with (go_at_call 23; go_must (refine (HC2.out _).mono ?_); rintro e w2 ⟨rfl, hk⟩; have HK := Lib.hid hk; clear hk)
  go_ret
  refine ⟨?_, K'.out.then_ HK.out⟩
  rfl
theorem by54 (a b : Item) (w : World) : Calls Try.prog 54 #[EI.val a, EI.val b] w (fun e w' => e = .returned (.int .i64 (byC 1 a b)) ∧ Keep (fun _ => False) w w') := by
  have HC := cmp_ok 1 a b
  have HR := Lib.hid (cmpR_cases 1 a b)
  have HB : Hid (byC 1 a b = 7 * cmpR 1 a b) := rfl
  generalize cmpR 1 a b = r at HC HR HB ⊢
  rw [HB.out]
  clear HB
  have K' : Hid (Keep (fun _ => False) w (((w.alloc (.cells #[.int .i64 a.1, .int .i64 a.2] 27)).alloc (.cells #[.int .i64 b.1, .int .i64 b.2] 27)))) := (((Keep.refl _ w).alloc _).alloc _)
  show Calls Try.prog 54 #[.agg #[.int .i64 a.1, .int .i64 a.2], .agg #[.int .i64 b.1, .int .i64 b.2]] w _
  have HC1 : ∀ w, Calls Try.prog 23 #[.int .i64 1, .agg #[.int .i64 a.1, .int .i64 a.2], .agg #[.int .i64 b.1, .int .i64 b.2]] w _ := HC
  have HC2 := Lib.hid HC1
  clear HC HC1
  go_enter Try.func54, Try.ntmps54
  go_wp2_with (go_at_call 23; go_must (refine (HC2.out _).mono ?_); rintro e w2 ⟨rfl, hk⟩; have HK := Lib.hid hk; clear hk)
  go_ret
  refine ⟨?_, K'.out.then_ HK.out⟩
  have hw : RowKit.wrap64 (7 * r) = 7 * r := by rcases HR.out with h | h | h <;> subst h <;> kernel_rfl
  rw [hw]
  rfl
theorem by55 (a b : Item) (w : World) : Calls Try.prog 55 #[EI.val a, EI.val b] w (fun e w' => e = .returned (.int .i64 (byC 2 a b)) ∧ Keep (fun _ => False) w w') := by
  have HC := cmp_ok 2 a b
  have HR := Lib.hid (cmpR_cases 2 a b)
  have HB : Hid (byC 2 a b = cmpR 2 a b) := rfl
  generalize cmpR 2 a b = r at HC HR HB ⊢
  rw [HB.out]
  clear HB
  have K' : Hid (Keep (fun _ => False) w (((w.alloc (.cells #[.int .i64 a.1, .int .i64 a.2] 27)).alloc (.cells #[.int .i64 b.1, .int .i64 b.2] 27)))) := (((Keep.refl _ w).alloc _).alloc _)
  show Calls Try.prog 55 #[.agg #[.int .i64 a.1, .int .i64 a.2], .agg #[.int .i64 b.1, .int .i64 b.2]] w _
  have HC1 : ∀ w, Calls Try.prog 23 #[.int .i64 2, .agg #[.int .i64 a.1, .int .i64 a.2], .agg #[.int .i64 b.1, .int .i64 b.2]] w _ := HC
  have HC2 := Lib.hid HC1
  clear HC HC1
  go_enter Try.func55, Try.ntmps55
  go_wp2_with (go_at_call 23; go_must (refine (HC2.out _).mono ?_); rintro e w2 ⟨rfl, hk⟩; have HK := Lib.hid hk; clear hk)
  go_ret
  refine ⟨?_, K'.out.then_ HK.out⟩
  rfl
theorem by56 (a b : Item) (w : World) : Calls Try.prog 56 #[EI.val a, EI.val b] w (fun e w' => e = .returned (.int .i64 (byC 3 a b)) ∧ Keep (fun _ => False) w w') := by
  have HC := cmp_ok 3 a b
  have HR := Lib.hid (cmpR_cases 3 a b)
  have HB : Hid (byC 3 a b = 1099511627776 * cmpR 3 a b) := rfl
  generalize cmpR 3 a b = r at HC HR HB ⊢
  rw [HB.out]
  clear HB
  have K' : Hid (Keep (fun _ => False) w (((w.alloc (.cells #[.int .i64 a.1, .int .i64 a.2] 27)).alloc (.cells #[.int .i64 b.1, .int .i64 b.2] 27)))) := (((Keep.refl _ w).alloc _).alloc _)
  show Calls Try.prog 56 #[.agg #[.int .i64 a.1, .int .i64 a.2], .agg #[.int .i64 b.1, .int .i64 b.2]] w _
  have HC1 : ∀ w, Calls Try.prog 23 #[.int .i64 3, .agg #[.int .i64 a.1, .int .i64 a.2], .agg #[.int .i64 b.1, .int .i64 b.2]] w _ := HC
  have HC2 := Lib.hid HC1
  clear HC HC1
  go_enter Try.func56, Try.ntmps56
  go_wp2_with (go_at_call 23; go_must (refine (HC2.out _).mono ?_); rintro e w2 ⟨rfl, hk⟩; have HK := Lib.hid hk; clear hk)
  go_ret
  refine ⟨?_, K'.out.then_ HK.out⟩
  have hw : RowKit.wrap64 (1099511627776 * r) = 1099511627776 * r := by rcases HR.out with h | h | h <;> subst h <;> kernel_rfl
  rw [hw]
  rfl
theorem by57 (a b : Item) (w : World) : Calls Try.prog 57 #[EI.val a, EI.val b] w (fun e w' => e = .returned (.int .i64 0) ∧ Keep (fun _ => False) w w') := by
  have K' : Hid (Keep (fun _ => False) w (((w.alloc (.cells #[.int .i64 a.1, .int .i64 a.2] 27)).alloc (.cells #[.int .i64 b.1, .int .i64 b.2] 27)))) := (((Keep.refl _ w).alloc _).alloc _)
  show Calls Try.prog 57 #[.agg #[.int .i64 a.1, .int .i64 a.2], .agg #[.int .i64 b.1, .int .i64 b.2]] w _
  go_enter Try.func57, Try.ntmps57
  go_wp2
  go_ret
  exact ⟨rfl, K'.out⟩

theorem byC_ok (o : Int) : CmpOk Try.prog EI (.func (.func (byF o)) #[] #[]) (byC o) 0 (fun _ => False) (fun _ _ => True) := by
  refine ⟨⟨byF o, #[], #[], rfl, ?_, ?_⟩, fun _ _ _ _ _ => trivial, fun _ h => h.elim⟩
  · intro args w
    unfold byF
    split
    · exact enters_of Try.func16 (by kernel_rfl) rfl args w
    split
    · exact enters_of Try.func54 (by kernel_rfl) rfl args w
    split
    · exact enters_of Try.func55 (by kernel_rfl) rfl args w
    split
    · exact enters_of Try.func56 (by kernel_rfl) rfl args w
    · exact enters_of Try.func57 (by kernel_rfl) rfl args w
  · intro n w x y _
    rw [show (#[] : Array Value) ++ (#[EI.val x, EI.val y] ++ #[]) = #[EI.val x, EI.val y] by simp]
    have key : Calls Try.prog (byF o) #[EI.val x, EI.val y] w (fun e w' => e = .returned (.int .i64 (byC o x y)) ∧ Keep (fun _ => False) w w') := by
      by_cases h0 : o = 0
      · subst h0; exact by16 x y w
      by_cases h1 : o = 1
      · subst h1; exact by54 x y w
      by_cases h2 : o = 2
      · subst h2; exact by55 x y w
      by_cases h3 : o = 3
      · subst h3; exact by56 x y w
      have e1 : byF o = 57 := by unfold byF; rw [if_neg h0, if_neg h1, if_neg h2, if_neg h3]
      have e2 : byC o x y = 0 := by unfold byC cmpR keyR; simp [h0, h1, h2, h3]
      rw [e1, e2]
      exact by57 x y w
    exact key.mono fun e w' ⟨h1, h2⟩ => ⟨h1, trivial, h2⟩
end Go.Proofs.Ytnofckgnnpmiiaa
