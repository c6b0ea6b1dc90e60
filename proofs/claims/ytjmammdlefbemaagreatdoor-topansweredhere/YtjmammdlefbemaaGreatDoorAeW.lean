/- The abstract evaluator: drawn regions, first part: equality of values, heaps that grow, one operation that writes nothing. -/
import Derived.Test.YtjmammdlefbemaaGreatDoorAeV
set_option linter.unusedVariables false
set_option linter.unusedSectionVars false
namespace Go.Ae

theorem natsEq_ok : ∀ {a b : List Nat}, natsEq a b = true → a = b
  | [], [], _ => rfl
  | [], _ :: _, h => by cases h
  | _ :: _, [], h => by cases h
  | x :: xs, y :: ys, h => by
    change (Bool.rec (motive := fun _ => Bool) false (natsEq xs ys) (Nat.beq x y)) = true at h
    cases hxy : Nat.beq x y with
    | false => rw [hxy] at h; cases h
    | true =>
      rw [hxy] at h
      rw [Nat.eq_of_beq_eq_true hxy, natsEq_ok h]
theorem capsEq_ok : ∀ {a b : List (Nat × Nat)}, capsEq a b = true → a = b
  | [], [], _ => rfl
  | [], _ :: _, h => by cases h
  | _ :: _, [], h => by cases h
  | (x1, x2) :: xs, (y1, y2) :: ys, h => by
    have h : (Nat.beq x1 y1 && Nat.beq x2 y2 && capsEq xs ys) = true := h
    simp only [Bool.and_eq_true] at h
    obtain ⟨⟨h1, h2⟩, h3⟩ := h
    rw [Nat.eq_of_beq_eq_true h1, Nat.eq_of_beq_eq_true h2, capsEq_ok h3]
theorem boolEq_ok {a b : Bool} (h : boolEq a b = true) : a = b := by cases a <;> cases b <;> first | rfl | cases h
theorem fkn_inj {a b : FloatKind} (h : Nat.beq (fkn a) (fkn b) = true) : a = b := by cases a <;> cases b <;> first | rfl | cases h

mutual
theorem avEq_ok : ∀ (a b : AV), avEq a b = true → a = b
  | .undef, b, h => by cases b <;> first | rfl | cases h
  | .nilp, b, h => by cases b <;> first | rfl | cases h
  | .nils, b, h => by cases b <;> first | rfl | cases h
  | .nilm, b, h => by cases b <;> first | rfl | cases h
  | .nilf, b, h => by cases b <;> first | rfl | cases h
  | .nili, b, h => by cases b <;> first | rfl | cases h
  | .voidO, b, h => by cases b <;> first | rfl | cases h
  | .voidE, b, h => by cases b <;> first | rfl | cases h
  | .flt k n, b, h => by
    cases b <;> first | (cases h; done) | skip
    rename_i k' n'
    have h : (Nat.beq (fkn k) (fkn k') && Nat.beq n n') = true := h
    simp only [Bool.and_eq_true] at h
    rw [fkn_inj h.1, Nat.eq_of_beq_eq_true h.2]
  | .fn f cs, b, h => by
    cases b <;> first | (cases h; done) | skip
    rename_i f' cs'
    have h : (Nat.beq f f' && capsEq cs cs') = true := h
    simp only [Bool.and_eq_true] at h
    rw [Nat.eq_of_beq_eq_true h.1, capsEq_ok h.2]
  | .tuple vs, b, h => by
    cases b <;> first | (cases h; done) | skip
    rename_i ws
    rw [avsEq_ok vs ws h]
  | .agg cs n, b, h => by
    cases b <;> first | (cases h; done) | skip
    rename_i cs' n'
    have h : (Nat.beq n n' && avEq (.agg cs 0) (.agg cs' 0)) = true := h
    simp only [Bool.and_eq_true] at h
    rw [Nat.eq_of_beq_eq_true h.1, trEq_ok cs cs' h.2]
  | .gptr g o, b, h => by
    cases b <;> first | (cases h; done) | skip
    rename_i g' o'
    have h : (Nat.beq g g' && Nat.beq o o') = true := h
    simp only [Bool.and_eq_true] at h
    rw [Nat.eq_of_beq_eq_true h.1, Nat.eq_of_beq_eq_true h.2]
  | .map m, b, h => by
    cases b <;> first | (cases h; done) | skip
    rw [Nat.eq_of_beq_eq_true (show Nat.beq m _ = true from h)]
  | .str s, b, h => by
    cases b <;> first | (cases h; done) | skip
    rw [natsEq_ok (show natsEq s _ = true from h)]
  | .slice x o l op c, b, h => by
    cases b <;> first | (cases h; done) | skip
    rename_i x' o' l' op' c'
    have h : (Nat.beq x x' && Nat.beq o o' && Nat.beq l l' && boolEq op op' && Nat.beq c c') = true := h
    simp only [Bool.and_eq_true] at h
    obtain ⟨⟨⟨⟨h1, h2⟩, h3⟩, h4⟩, h5⟩ := h
    rw [Nat.eq_of_beq_eq_true h1, Nat.eq_of_beq_eq_true h2, Nat.eq_of_beq_eq_true h3, boolEq_ok h4, Nat.eq_of_beq_eq_true h5]
  | .ptr x o, b, h => by
    cases b <;> first | (cases h; done) | skip
    rename_i x' o'
    have h : (Nat.beq x x' && Nat.beq o o') = true := h
    simp only [Bool.and_eq_true] at h
    rw [Nat.eq_of_beq_eq_true h.1, Nat.eq_of_beq_eq_true h.2]
  | .bool x, b, h => by
    cases b <;> first | (cases h; done) | skip
    rw [boolEq_ok (show boolEq x _ = true from h)]
  | .int k n, b, h => by
    cases b <;> first | (cases h; done) | skip
    rename_i k' n'
    have h : (Nat.beq (kn k) (kn k') && ieq n n') = true := h
    simp only [Bool.and_eq_true, ieq_eq, decide_eq_true_eq] at h
    rw [kn_inj h.1, h.2]
  | .yld x, b, h => by
    cases b <;> first | (cases h; done) | skip
    rw [Nat.eq_of_beq_eq_true (show Nat.beq x _ = true from h)]
theorem avsEq_ok : ∀ (a b : List AV), avEq (.tuple a) (.tuple b) = true → a = b
  | [], [], _ => rfl
  | [], _ :: _, h => by cases h
  | _ :: _, [], h => by cases h
  | x :: xs, y :: ys, h => by
    have h : (avEq x y && avEq (.tuple xs) (.tuple ys)) = true := h
    simp only [Bool.and_eq_true] at h
    rw [avEq_ok x y h.1, avsEq_ok xs ys h.2]
theorem trEq_ok : ∀ (a b : TT), avEq (.agg a 0) (.agg b 0) = true → a = b
  | .nil, .nil, _ => rfl
  | .nil, .node .., h => by cases h
  | .node .., .nil, h => by cases h
  | .node l v r, .node l' v' r', h => by
    have h : (avEq (.agg l 0) (.agg l' 0) && avEq v v' && avEq (.agg r 0) (.agg r' 0)) = true := h
    simp only [Bool.and_eq_true] at h
    obtain ⟨⟨h1, h2⟩, h3⟩ := h
    rw [trEq_ok l l' h1, avEq_ok v v' h2, trEq_ok r r' h3]
end

theorem blkEq_ok {a b : ABlk} (h : blkEq a b = true) : a = b ∧ a ≠ .dead := by
  unfold blkEq at h
  split at h
  · rename_i cs n z cl cs' n' z' cl'
    simp only [Bool.and_eq_true] at h
    obtain ⟨⟨⟨h1, h2⟩, h3⟩, h4⟩ := h
    rw [Nat.eq_of_beq_eq_true h1, Nat.eq_of_beq_eq_true h2, boolEq_ok h3, trEq_ok cs cs' h4]
    exact ⟨rfl, by simp⟩
  · exact ⟨rfl, by simp⟩
  · cases h

theorem blkDead_ok {e : Nat} (he : e ≠ 0) {b : ABlk} {k : Nat} (h : blkDead e b k = 0) : b = .dead ∧ k = 0 := by
  cases b <;> first | exact ⟨rfl, h⟩ | exact absurd h he
theorem blkLive_ok {e : Nat} (he : e ≠ 0) {b : ABlk} {k : Nat} (h : blkLive e b k = 0) : b ≠ .dead ∧ k = 0 := by
  cases b <;> first | exact absurd h he | exact ⟨by simp, h⟩

/-- the block of a value that an allocation gave -/
def blkNo : AV → Option Nat
  | .map b => some b
  | .slice b _ _ _ _ => some b
  | .ptr b _ => some b
  | _ => none
theorem asBlk_ok {e : Nat} (he : e ≠ 0) {v : AV} {k : Nat → Nat} (h : asBlk e v k = 0) : ∃ b, blkNo v = some b ∧ k b = 0 := by
  cases v <;> first | exact absurd h he | exact ⟨_, rfl, h⟩

/- heaps -/
/-- what h has of blocks, h' has too -/
def hle (h h' : HH) : Prop := ∀ b, hget h b = .dead ∨ hget h b = hget h' b
theorem hle_refl (h : HH) : hle h h := fun _ => .inr rfl
theorem hle_trans {h h' h'' : HH} (a : hle h h') (b : hle h' h'') : hle h h'' := fun x => by
  rcases a x with a | a
  · exact .inl a
  · rcases b x with b | b
    · exact .inl (a.trans b)
    · exact .inr (a.trans b)

theorem Rel.weaken {base w : World} {Γ : Gam} {h h' : HH} {n : Nat} (R : Rel base Γ h' n w) (hl : hle h h') : Rel base Γ h n w := by
  refine ⟨R.os, R.tape, R.output, R.size, R.old, R.rng, R.fresh, fun b g hb => ?_, fun b b' g g' hb hb' => R.inj b b' g g' ?_ ?_⟩
  · obtain ⟨o, h1, h2⟩ := R.blk b g hb
    rcases hl b with hd | he
    · exact ⟨o, h1, by rw [hd]; exact .dead _⟩
    · exact ⟨o, h1, by rw [he]; exact h2⟩
  · unfold live at *
    rcases hl b with hd | he
    · exact absurd hd hb
    · rw [← he]; exact hb
  · unfold live at *
    rcases hl b' with hd | he
    · exact absurd hd hb'
    · rw [← he]; exact hb'

/-- new blocks that nobody has yet -/
theorem Rel.grow {base w : World} {Γ : Gam} {h h' : HH} {n n' : Nat} (R : Rel base Γ h n w) (hn : n ≤ n') (hs : ∀ b, b < n → hget h' b = hget h b) : Rel base Γ h' n' w := by
  have lt : ∀ b g, Γ b = some g → b < n := fun b g hb => by
    rcases Nat.lt_or_ge b n with h | h
    · exact h
    · rw [R.fresh b h] at hb; cases hb
  refine ⟨R.os, R.tape, R.output, R.size, R.old, R.rng, fun b hb => R.fresh b (by omega), fun b g hb => ?_, fun b b' g g' hb hb' hg hg' => R.inj b b' g g' ?_ ?_ hg hg'⟩
  · obtain ⟨o, h1, h2⟩ := R.blk b g hb
    exact ⟨o, h1, by rw [hs b (lt b g hb)]; exact h2⟩
  · unfold live at *; rw [← hs b (lt b g hg)]; exact hb
  · unfold live at *; rw [← hs b' (lt b' g' hg')]; exact hb'

/-- a block that the heap has already, made -/
theorem Rel.allocAt {base w : World} {Γ : Gam} {h : HH} {n id : Nat} (R : Rel base Γ h n w) (hid : Γ id = none) (hn : id < n) {o : Obj} {g : G} (hc : g.c = w.heap.size) (ho : OR (Γ.put id g) g (hget h id) o) (dr : Nat) :
    Rel base (Γ.put id g) h n { w with heap := w.heap.push o, drawn := dr } := by
  have le : Γ.le (Γ.put id g) := Gam.le_put hid
  refine ⟨R.os, R.tape, R.output, by simp; have := R.size; omega, ?_, ?_, ?_, ?_, ?_⟩
  · intro c hc'
    have := R.size
    simp only [Array.getElem?_push]
    rw [if_neg (by omega)]
    exact R.old c hc'
  · intro b g' hb
    by_cases hbn : b = id
    · subst hbn
      rw [Gam.put_self] at hb; cases hb
      have := R.size
      simp only [Array.size_push]; omega
    · rw [Gam.put_ne _ _ hbn] at hb
      have := R.rng b g' hb
      simp only [Array.size_push]; omega
  · intro b hb
    rw [Gam.put_ne _ _ (by omega)]
    exact R.fresh b hb
  · intro b g' hb
    by_cases hbn : b = id
    · subst hbn
      rw [Gam.put_self] at hb; cases hb
      refine ⟨o, ?_, ho⟩
      simp only [Array.getElem?_push]
      rw [if_pos hc]
    · rw [Gam.put_ne _ _ hbn] at hb
      obtain ⟨o', h1, h2⟩ := R.blk b g' hb
      have := R.rng b g' hb
      refine ⟨o', ?_, h2.mono le⟩
      simp only [Array.getElem?_push]
      rw [if_neg (by omega)]
      exact h1
  · intro b b' gb gb' hl hl' hb hb' hcc
    by_cases h1 : b = id
    · by_cases h2 : b' = id
      · rw [h1, h2]
      · subst h1
        rw [Gam.put_self] at hb; cases hb
        rw [Gam.put_ne _ _ h2] at hb'
        have := R.rng b' gb' hb'
        omega
    · by_cases h2 : b' = id
      · subst h2
        rw [Gam.put_self] at hb'; cases hb'
        rw [Gam.put_ne _ _ h1] at hb
        have := R.rng b gb hb
        omega
      · rw [Gam.put_ne _ _ h1] at hb
        rw [Gam.put_ne _ _ h2] at hb'
        exact R.inj b b' gb gb' hl hl' hb hb' hcc

/- temporaries that an operation looks at -/
theorem tget_restr (t : TT) : ∀ (us : List Nat) (x : Nat), tget (restr us t) x = if x ∈ us then tget t x else .undef
  | [], x => by rw [if_neg (by simp)]; exact tget_nil x
  | u :: us, x => by
    show tget (tset (restr us t) u (tget t u)) x = _
    rw [tget_tset, tget_restr t us x]
    by_cases h : u = x
    · subst h; simp
    · rw [if_neg h]
      by_cases hx : x ∈ us
      · rw [if_pos hx, if_pos (by simp [hx])]
      · rw [if_neg hx, if_neg (by simp [hx]; exact fun e => h e.symm)]

/-- what an operation sees of the temporaries -/
def seen (us : List Nat) (tmps : Array Value) : Array Value := (Array.range tmps.size).map fun x => if x ∈ us then tmps.getD x undef else undef
theorem seen_getD (us : List Nat) (tmps : Array Value) (x : Nat) : (seen us tmps).getD x undef = if x ∈ us then tmps.getD x undef else undef := by
  unfold seen
  by_cases hx : x < tmps.size
  · simp [hx]
  · have h1 : tmps.getD x undef = undef := by simp [hx]
    rw [h1]
    simp [hx]
theorem relT_seen {Γ : Gam} {us : List Nat} {t : TT} {tmps : Array Value} (h : ∀ x ∈ us, VR Γ (tget t x) (tmps.getD x undef)) : RelT Γ (restr us t) (seen us tmps) := by
  intro x
  rw [tget_restr, seen_getD]
  by_cases hx : x ∈ us
  · rw [if_pos hx, if_pos hx]; exact h x hx
  · rw [if_neg hx, if_neg hx]; exact .undef

theorem exec_seen {arr : Array Oper} {o : Oper} (hs : ∀ cs b, o.op ≠ .select cs b) (a : Act) : execOp a.eval o = execOp (({ a with tmps := seen (o.looksAt arr) a.tmps } : Act).eval) o := by
  refine execOp_congr o hs fun x hx => ?_
  cases x with
  | tmp t =>
    have ht : t ∈ o.looksAt arr := by
      unfold Oper.looksAt
      exact List.mem_append_left _ (List.mem_filterMap.2 ⟨.tmp t, by simpa using hx, rfl⟩)
    show a.tmps.getD t undef = (seen (o.looksAt arr) a.tmps).getD t undef
    rw [seen_getD, if_pos ht]
  | const v => rfl
  | global g => rfl
  | func f => rfl

theorem gd_seen {inR : Bool} {arr : Array Oper} {o : Oper} {d : Nat} {want : Bool} (h : gdOf inR arr.toList o = some (some (d, want))) : d ∈ o.looksAt arr := by
  unfold gdOf at h
  split at h
  · cases h
  split at h
  · cases h
  rename_i g want' hg
  rw [nthO_eq] at h
  split at h
  · rename_i x hx
    split at h
    · rename_i d' hd'
      cases h
      have hx : arr[g]? = some x := by simpa using hx
      unfold Oper.looksAt
      refine List.mem_append_right _ ?_
      rw [hg]
      simp [hx, hd']
    · cases h
  · cases h

theorem noSelect_of_cop {C : Ctx} {ib : Nat → Bool} {e : Nat} {o : Oper} (h : cop C ib e o ≠ .bad) : ∀ cs b, o.op ≠ .select cs b := by
  intro cs b hc
  apply h
  unfold cop
  rw [hc]
  rfl
end Go.Ae
