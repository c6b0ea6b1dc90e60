/- The abstract evaluator: a call that starts from nothing and gives one block of numbers, kept as a summary. -/
import Derived.Test.YtjmammdlefbemaaGreatDoorAeZf
set_option linter.unusedVariables false
set_option linter.unusedSectionVars false
namespace Go.Ae

theorem Rel.start (w : World) : Rel w (fun _ => none) .nil 0 w :=
  ⟨rfl, rfl, rfl, Nat.le_refl _, fun _ _ => rfl, fun _ _ h => (by cases h), fun _ _ => rfl, fun _ _ h => (by cases h), fun _ _ _ _ _ _ h => (by cases h)⟩

theorem GlOK.of_rel {C : Ctx} {base w : World} {Γ : Gam} {h : HH} {n : Nat} (G : GlOK C base) (R : Rel base Γ h n w) : GlOK C w := by
  intro g off kd x hg
  have h1 := G g off kd x hg
  have h2 : g < base.heap.size := by
    rcases Nat.lt_or_ge g base.heap.size with h | h
    · exact h
    · simp [World.cell?, Array.getElem?_eq_none h] at h1
  have := R.old g h2
  simp only [World.cell?] at h1 ⊢
  rw [this]
  exact h1

/-- are the first m cells numbers? -/
noncomputable def intsT (t : TT) (m : Nat) : Bool := Nat.rec (motive := fun _ => Bool) true (fun i ih => Nat.beq (asInt 1 (tget t i) fun _ _ => 0) 0 && ih) m
theorem intsT_ok {t : TT} : ∀ {m : Nat}, intsT t m = true → ∀ i, i < m → ∃ kd x, tget t i = .int kd x
  | 0, _, i, hi => absurd hi (by omega)
  | m + 1, h, i, hi => by
    have h : (Nat.beq (asInt 1 (tget t m) fun _ _ => 0) 0 && intsT t m) = true := h
    simp only [Bool.and_eq_true] at h
    by_cases him : i = m
    · subst him
      obtain ⟨kd, x, hx, _⟩ := asInt_ok (e := 1) (by decide) (Nat.eq_of_beq_eq_true h.1)
      exact ⟨kd, x, hx⟩
    · exact intsT_ok h.2 i (by omega)

/-- the answer points to the start of a block that is just this one -/
noncomputable def chkBlock (T : TT) (m : Nat) : AV → HH → Nat → Nat := fun v h n =>
  asPtr 1 v fun b off => guardN 1 (Nat.beq off 0) (blkCells 1 (hget h b) fun cs k z cl => guardN 1 (Nat.beq k m) (guardN 1 (Nat.beq z 0) (guardN 1 (trEq cs T) 0)))
noncomputable def ovBlock (T : TT) (m : Nat) : CallT := fun _ args h n k => match args with
  | [] => k (.ptr n 0) (hset h n (.cells T m 0 false)) (n + 1)
  | _ => 1

theorem ovBlock_ok {P : Program} {C : Ctx} {c : Bool → CallT} (hc : CYOK P C c) {f m : Nat} {T : TT} (hT : intsT T m = true) (hrun : c false f [] .nil 0 (chkBlock T m) = 0) : CallAt P C (ovBlock T m) f := by
  intro args h n k hk
  cases args with
  | cons a args => exact absurd (show (1 : Nat) = 0 from hk) (by decide)
  | nil =>
    obtain ⟨v, h', n', hk', _, hall⟩ := hc.1 f [] .nil 0 _ hrun
    obtain ⟨b, off, hv, hk'⟩ := asPtr_ok (e := 1) (by decide) hk'
    obtain ⟨ho, hk'⟩ := guardN_ok (e := 1) (by decide) hk'
    obtain ⟨cs, m', z, cl, hb, hk'⟩ := blkCells_ok (e := 1) (by decide) hk'
    obtain ⟨hm, hk'⟩ := guardN_ok (e := 1) (by decide) hk'
    obtain ⟨hz, hk'⟩ := guardN_ok (e := 1) (by decide) hk'
    obtain ⟨ht, _⟩ := guardN_ok (e := 1) (by decide) hk'
    have ho : off = 0 := Nat.eq_of_beq_eq_true ho
    have hm : m' = m := Nat.eq_of_beq_eq_true hm
    have hz : z = 0 := Nat.eq_of_beq_eq_true hz
    have ht : cs = T := trEq_ok _ _ ht
    rw [ho] at hv
    rw [hm, hz, ht] at hb
    refine ⟨_, _, _, hk, Nat.le_succ _, fun base Γ w As cs kd hgl R hvs hkd => ?_⟩
    obtain ⟨Γ', w', fr, V, le, R', hV, hst, hk1, hgo⟩ := hall w _ w As cs kd (hgl.of_rel R) (Rel.start w) (by cases hAs : As.toList with | nil => exact .nil | cons x xs => rw [hAs] at hvs; cases hvs) hkd
    rw [hv] at hV
    obtain ⟨g, hg, hVe⟩ := hV.ptr_inv
    obtain ⟨o, hob, hor⟩ := R'.blk b g hg
    rw [hb] at hor
    have hrng := R'.rng b g hg
    have hn := R.fresh n (Nat.le_refl _)
    have hle : Γ.le (Γ.put n g) := Gam.le_put hn
    refine ⟨Γ.put n g, w', fr, V, Gam.ext_put hn (Nat.le_refl _), ?_, by rw [hVe]; exact .ptr n 0 g (Gam.put_self _ _ _), hst, hk1, hgo⟩
    refine ⟨R'.os.trans R.os, R'.tape.trans R.tape, R'.output.trans R.output, Nat.le_trans R.size R'.size, fun c hc => ?_, fun x gx hx => ?_, fun x hx => ?_, fun x gx hx => ?_, fun x y gx gy hlx hly hx hy hxy => ?_⟩
    · rw [R'.old c (Nat.lt_of_lt_of_le hc R.size)]; exact R.old c hc
    · by_cases hxn : x = n
      · subst hxn; rw [Gam.put_self] at hx; cases hx; have := R.size; omega
      · rw [Gam.put_ne _ _ hxn] at hx
        have := R.rng x gx hx
        have := R'.size
        omega
    · rw [Gam.put_ne _ _ (by omega)]; exact R.fresh x (by omega)
    · by_cases hxn : x = n
      · subst hxn
        rw [Gam.put_self] at hx; cases hx
        refine ⟨o, hob, ?_⟩
        rw [hget_hset, if_pos rfl]
        cases hor with
        | cells _ _ _ _ Cs elem lo hi hcc hf hoo =>
          refine .cells _ _ _ _ _ _ _ _ (fun i hi => ?_) ?_ (fun h => absurd rfl h)
          · obtain ⟨Vi, h1, h2, h3⟩ := hcc i hi
            obtain ⟨kd, x, hx⟩ := intsT_ok hT i hi
            rw [hx] at h2 ⊢
            rw [h2.int_inv] at h1
            exact ⟨_, h1, .int _ _, rfl⟩
          · rcases hf with hf | ⟨_, hf⟩
            · exact .inl hf
            · exact .inr ⟨rfl, hf⟩
      · rw [Gam.put_ne _ _ hxn] at hx
        obtain ⟨ox, h1, h2⟩ := R.blk x gx hx
        have := R.rng x gx hx
        refine ⟨ox, by rw [R'.old gx.c this.2]; exact h1, ?_⟩
        rw [hget_hset, if_neg (Ne.symm hxn)]
        exact h2.mono hle
    · unfold live at hlx hly
      rw [hget_hset] at hlx hly
      by_cases hxn : x = n
      · by_cases hyn : y = n
        · rw [hxn, hyn]
        · subst hxn
          rw [Gam.put_self] at hx; cases hx
          rw [Gam.put_ne _ _ hyn] at hy
          have := R.rng y gy hy
          omega
      · by_cases hyn : y = n
        · subst hyn
          rw [Gam.put_self] at hy; cases hy
          rw [Gam.put_ne _ _ hxn] at hx
          have := R.rng x gx hx
          omega
        · rw [Gam.put_ne _ _ hxn] at hx
          rw [Gam.put_ne _ _ hyn] at hy
          rw [if_neg (Ne.symm hxn)] at hlx
          rw [if_neg (Ne.symm hyn)] at hly
          exact R.inj x y gx gy hlx hly hx hy hxy
end Go.Ae
