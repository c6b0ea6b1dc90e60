/- The abstract evaluator: a call without arguments that gives a truth, kept as a summary; branches. -/
import Derived.Test.YtjmammdlefbemaaGreatDoorAeZi
set_option linter.unusedVariables false
set_option linter.unusedSectionVars false
namespace Go.Ae

/-- What was true of a world is true of a later one in which no block of it has turned. -/
theorem Rel.later {base w w' : World} {Γ Γ' : Gam} {h h' : HH} {n n' : Nat} (R : Rel base Γ h n w) (R' : Rel w Γ' h' n' w') : Rel base Γ h n w' := by
  refine ⟨R'.os.trans R.os, R'.tape.trans R.tape, R'.output.trans R.output, Nat.le_trans R.size R'.size, fun c hc => ?_, fun x gx hx => ?_, R.fresh, fun x gx hx => ?_, R.inj⟩
  · rw [R'.old c (Nat.lt_of_lt_of_le hc R.size)]; exact R.old c hc
  · have := R.rng x gx hx
    have := R'.size
    omega
  · obtain ⟨ox, h1, h2⟩ := R.blk x gx hx
    have := R.rng x gx hx
    exact ⟨ox, by rw [R'.old gx.c this.2]; exact h1, h2⟩

/-- A call that the evaluator sees come to b: so it does, in any world that holds the tables. -/
theorem calls_run {P : Program} {C : Ctx} {c : Bool → CallT} (hc : CYOK P C c) {f : Nat} {b : Bool} {args : List AV} (hrun : c false f args .nil 0 (chkBool b) = 0) {w : World} (hgl : GlOK C w) {As : Array Value} (hv : VRs (fun _ => none) args As.toList) :
    Calls P f As w fun e w' => e = .returned (.bool b) ∧ Go.RowKit.Below w.heap.size w w' := by
  intro cs
  obtain ⟨v, h', n', hk, _, hall⟩ := hc.1 f args .nil 0 _ hrun
  obtain ⟨c', hv', hk⟩ := asBool_ok (e := 1) (by decide) hk
  obtain ⟨hb, _⟩ := guardN_ok (e := 1) (by decide) hk
  have hb := boolEq_ok hb
  subst hb
  obtain ⟨Γ', w', fr, V, le, R', hV, hst, hk1, hgo⟩ := hall w _ w As cs .normal hgl (Rel.start w) hv (.inl rfl)
  rw [hv'] at hV
  have hV := hV.bool_inv
  subst hV
  exact ⟨_, w', fr, ⟨rfl, R'.below⟩, hst, hk1.2, hgo.1, hgo.2.1, hk1.1, hgo.2.2⟩

noncomputable def ovBool (b : Bool) : CallT := fun _ args h n k => match args with
  | [] => k (.bool b) h n
  | _ => 1

theorem ovBool_ok {P : Program} {C : Ctx} {c : Bool → CallT} (hc : CYOK P C c) {f : Nat} {b : Bool} (hrun : Nat.beq (c false f [] .nil 0 (chkBool b)) 0 = true) : CallAt P C (ovBool b) f := by
  intro args h n k hk
  cases args with
  | cons a args => exact absurd (show (1 : Nat) = 0 from hk) (by decide)
  | nil =>
    obtain ⟨v, h', n', hk', _, hall⟩ := hc.1 f [] .nil 0 _ (Nat.eq_of_beq_eq_true hrun)
    obtain ⟨c', hv, hk'⟩ := asBool_ok (e := 1) (by decide) hk'
    obtain ⟨hb, _⟩ := guardN_ok (e := 1) (by decide) hk'
    have hb := boolEq_ok hb
    subst hb
    refine ⟨_, _, _, hk, Nat.le_refl _, fun base Γ w As cs kd hgl R hvs hkd => ?_⟩
    obtain ⟨Γ', w', fr, V, le, R', hV, hst, hk1, hgo⟩ := hall w _ w As cs kd (hgl.of_rel R) (Rel.start w) (by cases hAs : As.toList with | nil => exact .nil | cons x xs => rw [hAs] at hvs; cases hvs) hkd
    rw [hv] at hV
    rw [hV.bool_inv] at hgo
    exact ⟨Γ, w', fr, .bool c', Gam.ext_refl _ _, R.later R', .bool c', hst, hk1, hgo⟩

/-- A truth that is not known parts the ways. -/
theorem br {A B : Nat} {b : Bool} (h1 : b = true → B = 0) (h0 : b = false → A = 0) : (Bool.rec (motive := fun _ => Nat) A B b : Nat) = 0 := by
  cases b with
  | true => exact h1 rfl
  | false => exact h0 rfl
theorem CallAt.of_imp {P : Program} {C : Ctx} {c c' : CallT} {f : Nat} (h : CallAt P C c f) (hi : ∀ args h n k, c' f args h n k = 0 → c f args h n k = 0) : CallAt P C c' f :=
  fun args h' n k hk => h args h' n k (hi args h' n k hk)

theorem eq_of_ieq {a b : Int} (h : ieq a b = true) : a = b := by
  rw [ieq_eq] at h
  exact of_decide_eq_true h
theorem ne_of_ieq {a b : Int} (h : ieq a b = false) : a ≠ b := by
  rw [ieq_eq] at h
  exact of_decide_eq_false h
/-- the ways part at two numbers that are not the same one -/
theorem brNe {A B : Nat} {a b : Int} (h : a ≠ b) (h0 : A = 0) : (Bool.rec (motive := fun _ => Nat) A B (ieq a b) : Nat) = 0 :=
  br (fun h1 => absurd (eq_of_ieq h1) h) (fun _ => h0)
theorem brNot {A B : Nat} {a b : Int} (h : a ≠ b) (h1 : B = 0) : (Bool.rec (motive := fun _ => Nat) A B (!ieq a b) : Nat) = 0 := by
  have : ieq a b = false := by rw [ieq_eq]; exact decide_eq_false h
  rw [this]; exact h1
theorem brEq {A B : Nat} {a b : Int} (h1 : a = b → B = 0) (h0 : a ≠ b → A = 0) : (Bool.rec (motive := fun _ => Nat) A B (ieq a b) : Nat) = 0 :=
  br (fun h => h1 (eq_of_ieq h)) (fun h => h0 (ne_of_ieq h))
/-- a number that is reckoned out -/
theorem stepI {F G : Nat → Nat} {x y : Int} (h : x = y) (hk : (Int.rec (motive := fun _ => Nat) F G y : Nat) = 0) : (Int.rec (motive := fun _ => Nat) F G x : Nat) = 0 := by
  rw [h]; exact hk
theorem wrapI_in {k : IntKind} {n : Int} (h : k.wrap n = n) : wrapI k n = n := by rw [wrapI_eq, h]
end Go.Ae
