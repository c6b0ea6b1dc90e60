/- The abstract evaluator: drawn regions, third part: what the checker of a plan shows. -/
import Derived.Test.YtjmammdlefbemaaGreatDoorAeX
set_option linter.unusedVariables false
set_option linter.unusedSectionVars false
namespace Go.Ae

theorem bitG_eq (m i : Nat) : bitG m i = m.testBit i := by
  unfold bitG
  rw [Nat.testBit_eq_decide_div_mod_eq]
  have : Nat.mod (Nat.shiftRight m i) 2 = m / 2 ^ i % 2 := by
    show (m >>> i) % 2 = _
    rw [Nat.shiftRight_eq_div_pow]
  rw [this, Bool.eq_iff_iff]
  simp [Nat.beq_eq]
theorem bitG_lor (a b i : Nat) : bitG (Nat.lor a b) i = (bitG a i || bitG b i) := by
  rw [bitG_eq, bitG_eq, bitG_eq]
  exact Nat.testBit_or a b i
theorem bitG_bit (j i : Nat) : bitG (bit j) i = true ↔ j = i := by
  rw [bitG_eq]
  show (1 <<< j).testBit i = true ↔ _
  rw [Nat.one_shiftLeft, Nat.testBit_two_pow]
  simp
theorem bitG_zero (i : Nat) : bitG 0 i = false := by rw [bitG_eq]; simp
theorem subM_ok {a b : Nat} (h : subM a b = true) {i : Nat} (hi : bitG a i = true) : bitG b i = true := by
  unfold subM at h
  have h := Nat.eq_of_beq_eq_true h
  rw [← h, bitG_lor, hi]
  rfl

theorem predM_fold (l : List Edge) (j : Nat) : bitG (l.foldr (fun e m => if Region.binds .any e then Nat.lor (bit e.on) m else m) 0) j = true ↔ ∃ e ∈ l, Region.binds .any e = true ∧ e.on = j := by
  induction l with
  | nil => simp [bitG_zero]
  | cons e l ih =>
    simp only [List.foldr_cons]
    by_cases hb : Region.binds .any e = true
    · rw [if_pos hb, bitG_lor, Bool.or_eq_true, bitG_bit, ih]
      constructor
      · rintro (h | ⟨e', he', h1, h2⟩)
        · exact ⟨e, by simp, hb, h⟩
        · exact ⟨e', by simp [he'], h1, h2⟩
      · rintro ⟨e', he', h1, h2⟩
        rcases List.mem_cons.1 he' with rfl | he'
        · exact .inl h2
        · exact .inr ⟨e', he', h1, h2⟩
    · rw [if_neg hb, ih]
      constructor
      · rintro ⟨e', he', h1, h2⟩
        exact ⟨e', by simp [he'], h1, h2⟩
      · rintro ⟨e', he', h1, h2⟩
        rcases List.mem_cons.1 he' with rfl | he'
        · exact absurd h1 hb
        · exact ⟨e', he', h1, h2⟩
theorem predM_ok (o : Oper) (j : Nat) : bitG (predM o) j = true ↔ ∃ e ∈ o.after, Region.binds .any e = true ∧ e.on = j := by
  unfold predM
  rw [predM_fold]
  simp

/-- a set of operations that has with each one what comes before it -/
def Closed (L : List Oper) (S : Nat → Prop) : Prop := ∀ i o, S i → L[i]? = some o → ∀ e ∈ o.after, Region.binds .any e = true → S e.on

def AncOK (L : List Oper) (tab : Tr Nat) : Prop := ∀ S, Closed L S → ∀ j o, L[j]? = some o → (∀ e ∈ o.after, Region.binds .any e = true → S e.on) → ∀ i, bitG (Tr.get 0 tab j) i = true → S i

theorem ancOf_fold {L : List Oper} {tab : Tr Nat} (hlen : ∀ j, bitG (Tr.get 0 tab j) 0 = true → True) (h : AncOK L tab) {S : Nat → Prop} (hS : Closed L S) (i : Nat) : ∀ (l : List Edge), (∀ e ∈ l, Region.binds .any e = true → S e.on ∧ (∃ o, L[e.on]? = some o ∨ Tr.get 0 tab e.on = 0)) →
    bitG (l.foldr (fun e m => if Region.binds .any e then Nat.lor (Nat.lor (bit e.on) (Tr.get 0 tab e.on)) m else m) 0) i = true → S i := by
  intro l
  induction l with
  | nil => intro _ hb; simp [bitG_zero] at hb
  | cons e l ih =>
    intro hl hb
    simp only [List.foldr_cons] at hb
    by_cases hbd : Region.binds .any e = true
    · rw [if_pos hbd, bitG_lor, bitG_lor, Bool.or_eq_true, Bool.or_eq_true, bitG_bit] at hb
      obtain ⟨h1, o, h2⟩ := hl e (by simp) hbd
      rcases hb with (hb | hb) | hb
      · rw [← hb]; exact h1
      · rcases h2 with h2 | h2
        · exact h S hS e.on o h2 (hS e.on o h1 h2) i hb
        · rw [h2, bitG_zero] at hb; cases hb
      · exact ih (fun e' he' => hl e' (by simp [he'])) hb
    · rw [if_neg hbd] at hb
      exact ih (fun e' he' => hl e' (by simp [he'])) hb

/-- entries lie at operations only -/
def AncIn (L : List Oper) (tab : Tr Nat) : Prop := ∀ j, Tr.get 0 tab j = 0 ∨ ∃ o, L[j]? = some o

theorem ancs_ok {L : List Oper} : ∀ (ops : List Oper) (i : Nat) (tab : Tr Nat), L.drop i = ops → AncOK L tab → AncIn L tab → AncOK L (ancs ops i tab) ∧ AncIn L (ancs ops i tab)
  | [], i, tab, _, h, hin => ⟨h, hin⟩
  | o :: ops, i, tab, hd, h, hin => by
    show AncOK L (ancs ops (i + 1) (Tr.set 0 tab i (ancOf tab o))) ∧ AncIn L (ancs ops (i + 1) (Tr.set 0 tab i (ancOf tab o)))
    have hi : L[i]? = some o := by
      have := congrArg (fun l => l[0]?) hd
      simpa using this
    refine ancs_ok ops (i + 1) _ (by rw [← List.drop_drop, hd]; rfl) ?_ ?_
    · intro S hS j oj hj hp x hx
      rw [Tr.get_set] at hx
      by_cases hij : i = j
      · subst hij
        rw [if_pos rfl] at hx
        rw [hi] at hj
        cases hj
        refine ancOf_fold (fun _ _ => trivial) h hS x o.after.toList (fun e he hb => ⟨hp e (by simpa using he) hb, ?_⟩) hx
        rcases hin e.on with h0 | ⟨o', ho'⟩
        · exact ⟨o, .inr h0⟩
        · exact ⟨o', .inl ho'⟩
      · rw [if_neg hij] at hx
        exact h S hS j oj hj hp x hx
    · intro j
      rw [Tr.get_set]
      by_cases hij : i = j
      · subst hij; exact .inr ⟨o, hi⟩
      · rw [if_neg hij]; exact hin j

theorem drOf_anc (L : List Oper) : AncOK L (drOf L).anc := by
  have e0 : ∀ j, Tr.get 0 (.nil : Tr Nat) j = 0 := fun j => Tr.getC_nil 0 (path j)
  exact (ancs_ok L 0 .nil (by simp) (fun S hS j o hj hp i hb => by rw [e0, bitG_zero] at hb; cases hb) (fun j => .inl (e0 j))).1

theorem dstT_ok {L : List Oper} : ∀ (ops : List Oper) (i : Nat) (tab : Tr Nat), L.drop i = ops → (∀ x j, Tr.get 0 tab x = j + 1 → ∃ o, L[j]? = some o ∧ o.dst = some x) →
    ∀ x j, Tr.get 0 (dstT ops i tab) x = j + 1 → ∃ o, L[j]? = some o ∧ o.dst = some x
  | [], i, tab, _, h => h
  | o :: ops, i, tab, hd, h => by
    have hi : L[i]? = some o := by
      have := congrArg (fun l => l[0]?) hd
      simpa using this
    refine dstT_ok ops (i + 1) _ (by rw [← List.drop_drop, hd]; rfl) ?_
    intro x j hx
    cases hdst : o.dst with
    | none =>
      have hx : Tr.get 0 (Option.rec (motive := fun _ => Tr Nat) tab (fun d => Tr.set 0 tab d (Nat.succ i)) o.dst) x = j + 1 := hx
      rw [hdst] at hx
      exact h x j hx
    | some d =>
      have hx : Tr.get 0 (Option.rec (motive := fun _ => Tr Nat) tab (fun d => Tr.set 0 tab d (Nat.succ i)) o.dst) x = j + 1 := hx
      rw [hdst] at hx
      have hx : Tr.get 0 (Tr.set 0 tab d (i + 1)) x = j + 1 := hx
      rw [Tr.get_set] at hx
      by_cases hdx : d = x
      · subst hdx
        rw [if_pos rfl] at hx
        have : i = j := by omega
        subst this
        exact ⟨o, hi, hdst⟩
      · rw [if_neg hdx] at hx
        exact h x j hx
theorem drOf_dst {L : List Oper} {x j : Nat} (h : Tr.get 0 (drOf L).dst x = j + 1) : ∃ o, L[j]? = some o ∧ o.dst = some x :=
  dstT_ok L 0 .nil (by simp) (fun x j hx => by
    have : Tr.get 0 (.nil : Tr Nat) x = 0 := Tr.getC_nil 0 (path x)
    rw [this] at hx; cases hx) x j h

theorem rangeL_mem (n : Nat) : ∀ i, i ∈ rangeL n ↔ i < n := by
  have : ∀ (n : Nat) (l : List Nat) i, i ∈ (Nat.rec (motive := fun _ => List Nat → List Nat) (fun l => l) (fun m ih l => ih (m :: l)) n : List Nat → List Nat) l ↔ i < n ∨ i ∈ l := by
    intro n
    induction n with
    | zero => intro l i; show i ∈ l ↔ _; simp
    | succ m ih =>
      intro l i
      show i ∈ (Nat.rec (motive := fun _ => List Nat → List Nat) (fun l => l) (fun m ih l => ih (m :: l)) m : List Nat → List Nat) (m :: l) ↔ _
      rw [ih, List.mem_cons]
      by_cases hl : i ∈ l <;> simp [hl] <;> omega
  intro i
  show i ∈ (Nat.rec (motive := fun _ => List Nat → List Nat) (fun l => l) (fun m ih l => ih (m :: l)) n : List Nat → List Nat) [] ↔ _
  rw [this]
  simp

section
variable {C : Ctx} {ib : Nat → Bool} {q N : Nat} {inR : Bool} {id : Nat} {arr : Array Oper}

/-- what an operation sees is the work of one directly before it, or of one that comes behind it (or itself), or of none here -/
def UsesF (L : List Oper) (arr : Array Oper) (i : Nat) (o : Oper) : Prop :=
  ∀ x ∈ o.looksAt arr, Tr.get 0 (drOf L).dst x = 0 ∨ ∃ j, Tr.get 0 (drOf L).dst x = j + 1 ∧ (bitG (predM o) j = true ∨ bitG (Tr.get 0 (drOf L).anc j) i = true ∨ i = j)
/-- and behind R -/
def UsesR (L : List Oper) (arr : Array Oper) (R i : Nat) (o : Oper) : Prop :=
  ∀ x ∈ o.looksAt arr, Tr.get 0 (drOf L).dst x = 0 ∨ ∃ j, Tr.get 0 (drOf L).dst x = j + 1 ∧ (bitG (predM o) j = true ∨ bitG R j = false)

theorem usesOK_ok {i R : Nat} {o : Oper} (h : usesOK (drOf arr.toList) i R o = true) : UsesF arr.toList arr i o ∧ UsesR arr.toList arr R i o := by
  unfold usesOK at h
  rw [List.all_eq_true] at h
  have h : ∀ x ∈ o.looksAt arr, _ := h
  constructor
  · intro x hx
    have := h x (by simpa using hx)
    split at this
    · rename_i h0; exact .inl h0
    · rename_i j hj
      simp only [Bool.or_eq_true, Bool.and_eq_true, Bool.not_eq_true'] at this
      refine .inr ⟨j, hj, ?_⟩
      rcases this with h1 | ⟨h1 | h1, _⟩
      · exact .inl h1
      · exact .inr (.inl h1)
      · exact .inr (.inr (Nat.eq_of_beq_eq_true h1))
  · intro x hx
    have := h x (by simpa using hx)
    split at this
    · rename_i h0; exact .inl h0
    · rename_i j hj
      simp only [Bool.or_eq_true, Bool.and_eq_true, Bool.not_eq_true'] at this
      refine .inr ⟨j, hj, ?_⟩
      rcases this with h1 | ⟨_, h1⟩
      · exact .inl h1
      · exact .inr h1

/-- What the checker knows of an operation that may run. -/
structure OpF (C : Ctx) (ib : Nat → Bool) (q N : Nat) (inR : Bool) (id : Nat) (arr : Array Oper) (w : Bool) (i : Nat) (o : Oper) : Prop where
  at_ : arr.toList[i]? = some o
  isw : wr C ib q id o = w
  uses : UsesF arr.toList arr i o
  dst : ∀ d, o.dst = some d → Tr.get 0 (drOf arr.toList).dst d = i + 1 ∧ d < N
  some_ : w = false → ∃ d, o.dst = some d
  gd : ∃ gd, gdOf inR arr.toList o = some gd

theorem mayRun_ok {w : Bool} {i R : Nat} (h : mayRun C ib q N inR id (drOf arr.toList) w i R = true) :
    ∃ o, OpF C ib q N inR id arr w i o ∧ (∀ j, bitG (predM o) j = true → bitG R j = true) ∧ bitG R i = false ∧ UsesR arr.toList arr R i o := by
  unfold mayRun at h
  rw [nthO_eq] at h
  have h : (match arr.toList[i]? with
    | some o => boolEq (wr C ib q id o) w && subM (predM o) R && !bitG R i && usesOK (drOf arr.toList) i R o && dstIs N (drOf arr.toList) i o w && (gdOf inR arr.toList o).isSome
    | none => false) = true := h
  split at h
  · rename_i o ho
    simp only [Bool.and_eq_true, Bool.not_eq_true'] at h
    obtain ⟨⟨⟨⟨⟨h1, h2⟩, h3⟩, h4⟩, h5⟩, h6⟩ := h
    obtain ⟨u1, u2⟩ := usesOK_ok h4
    refine ⟨o, ⟨ho, boolEq_ok h1, u1, ?_, ?_, Option.isSome_iff_exists.1 h6⟩, fun j hj => subM_ok h2 hj, h3, u2⟩
    · intro d hd
      unfold dstIs at h5
      rw [hd] at h5
      simp only [Bool.and_eq_true] at h5
      exact ⟨Nat.eq_of_beq_eq_true h5.1, blt_lt h5.2⟩
    · intro hw
      unfold dstIs at h5
      cases hd : o.dst with
      | none => rw [hd] at h5; rw [hw] at h5; cases h5
      | some d => exact ⟨d, rfl⟩
  · cases h
end
end Go.Ae
