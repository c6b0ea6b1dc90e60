/- The abstract evaluator: the machine's steps, in a frame that may be a round of a loop. -/
import Derived.Test.YtjmammdlefbemaaGreatDoorAeP
import Derived.Scope
set_option linter.unusedVariables false
set_option linter.unusedSectionVars false
namespace Go.Ae

/-- a frame at a state, its round kept -/
def fat (b : Frame) (a : Act) (todo : List Item) : Frame := { fn := b.fn, tmps := a.tmps, todo, defers := a.defers, mode := .run, kind := b.kind, roundOf := b.roundOf }

theorem fat_eval (b : Frame) (a : Act) (todo : List Item) : (fat b a todo).eval = a.eval := by
  funext x; cases x <;> rfl

section moves
variable {P : Program} {b : Frame} {a : Act} {k : List Item} {cs : List Frame} {w : World}

theorem fat_skip : step P (lone (fat b a (.code .skip :: k)) cs w) = .next (lone (fat b a k) cs w) :=
  step_lone_go (by simp [stepG, stepG.exec, fat])
theorem fat_label {l : Nat} : step P (lone (fat b a (.code (.label l) :: k)) cs w) = .next (lone (fat b a k) cs w) :=
  step_lone_go (by simp [stepG, stepG.exec, fat])
theorem fat_inBlock {id : Nat} : step P (lone (fat b a (.inBlock id :: k)) cs w) = .next (lone (fat b a k) cs w) :=
  step_lone_go (by simp [stepG, stepG.exec, fat])
theorem fat_seq {x y : Code} : step P (lone (fat b a (.code (.seq x y) :: k)) cs w) = .next (lone (fat b a (.code x :: .code y :: k)) cs w) :=
  step_lone_go (by simp [stepG, stepG.exec, fat])
theorem fat_cond {c : Operand} {x y : Code} {t : Bool} (h : a.eval c = .bool t) :
    step P (lone (fat b a (.code (.cond c x y) :: k)) cs w) = .next (lone (fat b a (.code (if t then x else y) :: k)) cs w) :=
  step_lone_go (by
    have := congrFun (fat_eval b a (.code (.cond c x y) :: k)) c
    simp only [fat] at this
    simp [stepG, stepG.exec, fat, this, h])
theorem fat_block {id : Nat} {c : Code} : step P (lone (fat b a (.code (.block id c) :: k)) cs w) = .next (lone (fat b a (.code c :: .inBlock id :: k)) cs w) :=
  step_lone_go (by simp [stepG, stepG.exec, fat])
theorem fat_loop {c : Code} : step P (lone (fat b a (.code (.loop c) :: k)) cs w) = .next (lone (fat b a (.code c :: .inLoop c :: k)) cs w) :=
  step_lone_go (by simp [stepG, stepG.exec, fat])
theorem fat_inLoop {c : Code} : step P (lone (fat b a (.inLoop c :: k)) cs w) = .next (lone (fat b a (.code c :: .inLoop c :: k)) cs w) :=
  step_lone_go (by simp [stepG, stepG.exec, fat])
theorem fat_exit {id : Nat} {k' : List Item} (h : exitTo id k = some k') : step P (lone (fat b a (.code (.exit id) :: k)) cs w) = .next (lone (fat b a k') cs w) :=
  step_lone_go (by simp [stepG, stepG.exec, fat, h])
theorem fat_ret (hr : b.roundOf = none) : step P (lone (fat b a (.code .ret :: k)) cs w) = .next (lone { fat b a (.code .ret :: k) with mode := .returning } cs w) :=
  step_lone_go (by simp [stepG, stepG.exec, fat, hr])
theorem fat_end (hr : b.roundOf = none) : step P (lone (fat b a []) cs w) = .next (lone { fat b a [] with mode := .returning } cs w) :=
  step_lone_go (by simp [stepG, stepG.exec, fat, hr])
theorem fat_scope {c : Code} : step P (lone (fat b a (.code (.scope c) :: k)) cs w) = .next (lone (fat b a (.code c :: .inScope c :: k)) cs w) :=
  step_lone_go (by simp [stepG, stepG.exec, fat])
theorem fat_inScope {c : Code} : step P (lone (fat b a (.inScope c :: k)) cs w) = .next (lone (fat b a k) cs w) :=
  step_lone_go (by simp [stepG, stepG.exec, fat])
variable {ops : Array Oper}
theorem fat_region {id : Nat} : step P (lone (fat b a (.code (.region id ops false) :: k)) cs w) = .next (lone (fat b a (.inRegion ops (List.range ops.size) :: k)) cs w) :=
  step_lone_go (by simp [stepG, stepG.exec, fat])
theorem fat_region_draw {id : Nat} :
    step P (lone (fat b a (.code (.region id ops true) :: k)) cs w) =
      .next (lone (fat b a (.inRegion ops (Region.schedule (P.follows .mixedOrders) ops (w.tape w.drawn (.order b.fn id))) :: k)) cs { w with drawn := w.drawn + 1 }) :=
  step_lone_go (by simp [stepG, stepG.exec, fat, choose, Sem.run, Question.forced, Question.cut])
theorem fat_region_end : step P (lone (fat b a (.inRegion ops [] :: k)) cs w) = .next (lone (fat b a k) cs w) :=
  step_lone_go (by simp [stepG, stepG.exec, fat])
theorem fat_finish (i : Nat) (rest : List Nat) (v : Value) :
    (fat b a (.inRegion ops (i :: rest) :: k)).finish v = fat b (a.put ((ops[i]?).bind (·.dst)) v) (.inRegion ops rest :: k) := by
  cases h : (ops[i]?).bind (·.dst) <;> simp [Frame.finish, fat, Act.put, h]
theorem fat_op_skip {i : Nat} {rest : List Nat} (h : ((ops[i]?).map (Region.wanted · (yielded ops a.tmps))).getD false = false) :
    step P (lone (fat b a (.inRegion ops (i :: rest) :: k)) cs w) =
      .next (lone (fat b (a.put ((ops[i]?).bind (·.dst)) undef) (.inRegion ops rest :: k)) cs w) := by
  rw [← fat_finish]
  exact step_lone_go (by
    have h' := h
    simp only [fat] at *
    simp [stepG, stepG.exec, h'])
theorem fat_op {i : Nat} {rest : List Nat} {o : Oper} (ho : ops[i]? = some o) (hw : Region.wanted o (yielded ops a.tmps) = true) (hd : b.roundOf = none ∨ ∀ c, o.op ≠ .defer c) :
    stepG P true { frame := fat b a (.inRegion ops (i :: rest) :: k), callers := cs, status := .running, dying := none } w =
      stepG.apply P true (fat b a (.inRegion ops (i :: rest) :: k)) cs none (execOp a.eval o) w := by
  have he := fat_eval b a (.inRegion ops (i :: rest) :: k)
  simp only [fat] at he
  rcases hd with hd | hd
  · rw [hd] at he
    simp [stepG, stepG.exec, stepG.oper, Frame.oper?, fat, ho, hw, he, hd]
  · simp only [stepG, stepG.exec, stepG.oper, Frame.oper?, fat, ho, hw, Option.map_some, Option.getD_some, if_true]
    split
    · rename_i hc
      exact absurd hc (hd _)
    · rw [he]
end moves

inductive Out where
  | nrm
  | ex (i : Nat)
  | rt

def cont (kn : St) (kx : Nat → St) (kr : St) : Out → St
  | .nrm => kn
  | .ex i => kx i
  | .rt => kr

def Arr (P : Program) (m : Machine) (b : Frame) (k : List Item) (cs : List Frame) : Out → Act → World → Prop
  | .nrm, a, w => Steps P m (lone (fat b a k) cs w)
  | .ex i, a, w => ∀ k', exitTo i k = some k' → Steps P m (lone (fat b a k') cs w)
  | .rt, a, w => b.roundOf = none ∧ ∃ todo, Steps P m (lone { fat b a todo with mode := .returning } cs w)

theorem Arr.of_steps {P : Program} {m m₁ : Machine} {b : Frame} {k : List Item} {cs : List Frame} {e : Out} {a : Act} {w : World}
    (h : Steps P m m₁) (h' : Arr P m₁ b k cs e a w) : Arr P m b k cs e a w := by
  cases e with
  | nrm => exact h.trans h'
  | ex i => exact fun k' hk => h.trans (h' k' hk)
  | rt => obtain ⟨hr, todo, hs⟩ := h'; exact ⟨hr, todo, h.trans hs⟩

theorem Arr.pass {P : Program} {m : Machine} {b : Frame} {x : Item} {k : List Item} {cs : List Frame} {e : Out} {a : Act} {w : World}
    (hx : x.plain = true ∨ ∃ c, x = .inScope c) (he : e ≠ .nrm) (h : Arr P m b (x :: k) cs e a w) : Arr P m b k cs e a w := by
  cases e with
  | nrm => exact absurd rfl he
  | ex i => exact fun k' hk => h k' (by
      rcases hx with hx | ⟨c, rfl⟩
      · cases x <;> simp_all [exitTo, Item.plain]
      · simp [exitTo, hk])
  | rt => exact h

/-- what is known of a frame that the evaluator runs in -/
structure Side (q : Nat) (inR : Bool) (b : Frame) (cs : List Frame) : Prop where
  fn : b.fn = q
  rnd : inR = false → b.roundOf = none
  kind : b.kind = .normal ∨ b.kind = .deferred ∧ recoverD cs = none

inductive RelD (P : Program) (Γ : Gam) : DL → List Deferred → Prop where
  | nil : RelD P Γ [] []
  | call {f : Nat} {args : List AV} {d : Deferred} {D : DL} {ds : List Deferred} (ht : ∃ fv cap, d.target = .fn fv cap) (As : Array Value)
      (hi : ∀ w, (invoke d.target d.args).run P w = .ok (.enter f As) w) (hv : VRs Γ args As.toList) (t : RelD P Γ D ds) : RelD P Γ (.call f args :: D) (d :: ds)
  | coll {b : Nat} {g : G} {D : DL} {ds : List Deferred} (hb : Γ b = some g) (t : RelD P Γ D ds) : RelD P Γ (.coll b :: D) ({ target := .collected g.c, args := #[] } :: ds)

end Go.Ae
