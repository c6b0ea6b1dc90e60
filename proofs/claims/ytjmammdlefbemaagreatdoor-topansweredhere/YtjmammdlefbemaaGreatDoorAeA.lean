/- The abstract evaluator: its data. -/
import Derived.Calls
import Derived.Defers
import Derived.Recover
import Derived.KernelRfl
import Derived.Laws.Sem
import Derived.Laws.Entries
import Derived.Laws.Cells
import Derived.Laws.Strings
import Derived.Laws.StructEq
import Derived.Laws.Concat
namespace Go.Ae

inductive Tr (α : Type) where
  | nil
  | node (l : Tr α) (v : α) (r : Tr α)

/-- A closure in a box: what is compiled once is kept. -/
inductive BX (α : Type) where
  | mk (f : α)
noncomputable def BX.run {α : Type} (b : BX α) : α := BX.rec (motive := fun _ => α) (fun f => f) b

noncomputable def pathN (f : Nat) : Nat → List Bool :=
  Nat.rec (motive := fun _ => Nat → List Bool) (fun _ => []) (fun _ ih i =>
    Nat.rec (motive := fun _ => List Bool) [] (fun i _ =>
      Nat.rec (motive := fun _ => List Bool) (false :: ih (Nat.div i 2)) (fun _ _ => true :: ih (Nat.div i 2)) (Nat.mod i 2)) i) f
noncomputable def path (i : Nat) : List Bool := pathN i i

namespace Tr
variable {α : Type}
noncomputable def getX (d : α) (p : List Bool) : BX (Tr α → α) :=
  List.rec (motive := fun _ => BX (Tr α → α)) (.mk fun t => Tr.rec (motive := fun _ => α) d (fun _ v _ _ _ => v) t)
    (fun b _ ih => Bool.rec (motive := fun _ => BX (Tr α → α)) (.mk fun t => Tr.rec (motive := fun _ => α) d (fun l _ _ _ _ => ih.run l) t)
      (.mk fun t => Tr.rec (motive := fun _ => α) d (fun _ _ r _ _ => ih.run r) t) b) p
noncomputable def setX (d : α) (p : List Bool) : BX (α → Tr α → Tr α) :=
  List.rec (motive := fun _ => BX (α → Tr α → Tr α)) (.mk fun x t => Tr.rec (motive := fun _ => Tr α) (node nil x nil) (fun l _ r _ _ => node l x r) t)
    (fun b _ ih => Bool.rec (motive := fun _ => BX (α → Tr α → Tr α))
       (.mk fun x t => Tr.rec (motive := fun _ => Tr α) (node (ih.run x nil) d nil) (fun l v r _ _ => node (ih.run x l) v r) t)
       (.mk fun x t => Tr.rec (motive := fun _ => Tr α) (node nil d (ih.run x nil)) (fun l v r _ _ => node l v (ih.run x r)) t) b) p
noncomputable def getC (d : α) (p : List Bool) (t : Tr α) : α := (getX d p).run t
noncomputable def setC (d : α) (p : List Bool) (x : α) (t : Tr α) : Tr α := (setX d p).run x t
noncomputable def get (d : α) (t : Tr α) (i : Nat) : α := getC d (path i) t
noncomputable def set (d : α) (t : Tr α) (i : Nat) (x : α) : Tr α := setC d (path i) x t

theorem getC_nil (d : α) (p : List Bool) : getC d p nil = d := by
  cases p with
  | nil => rfl
  | cons b p => cases b <;> rfl

theorem getC_setC (d x : α) : ∀ (p q : List Bool) (t : Tr α), getC d q (setC d p x t) = if p = q then x else getC d q t
  | [], [], .nil => rfl
  | [], [], .node .. => rfl
  | [], true :: q, .nil => by rw [if_neg (by simp)]; exact getC_nil d q
  | [], false :: q, .nil => by rw [if_neg (by simp)]; exact getC_nil d q
  | [], true :: q, .node .. => by rw [if_neg (by simp)]; rfl
  | [], false :: q, .node .. => by rw [if_neg (by simp)]; rfl
  | true :: p, [], .nil => rfl
  | false :: p, [], .nil => rfl
  | true :: p, [], .node .. => rfl
  | false :: p, [], .node .. => rfl
  | true :: p, true :: q, .nil => by
    show getC d q (setC d p x nil) = _
    rw [getC_setC d x p q nil, getC_nil]; simp; rfl
  | true :: p, true :: q, .node l v r => by
    show getC d q (setC d p x r) = _
    rw [getC_setC d x p q r]; simp; rfl
  | false :: p, false :: q, .nil => by
    show getC d q (setC d p x nil) = _
    rw [getC_setC d x p q nil, getC_nil]; simp; rfl
  | false :: p, false :: q, .node l v r => by
    show getC d q (setC d p x l) = _
    rw [getC_setC d x p q l]; simp; rfl
  | true :: p, false :: q, .nil => by rw [if_neg (by simp)]; exact getC_nil d q
  | true :: p, false :: q, .node .. => by rw [if_neg (by simp)]; rfl
  | false :: p, true :: q, .nil => by rw [if_neg (by simp)]; exact getC_nil d q
  | false :: p, true :: q, .node .. => by rw [if_neg (by simp)]; rfl
end Tr

def unpath : List Bool → Nat
  | [] => 0
  | b :: p => 2 * unpath p + (if b then 1 else 0) + 1

theorem pathN_succ (f i : Nat) : pathN (f + 1) (i + 1) = (if i % 2 = 0 then false else true) :: pathN f (i / 2) := by
  show Nat.rec (motive := fun _ => List Bool) (false :: pathN f (Nat.div i 2)) (fun _ _ => true :: pathN f (Nat.div i 2)) (Nat.mod i 2) = _
  have : i % 2 = 0 ∨ i % 2 = 1 := by omega
  rcases this with h | h
  · rw [show Nat.mod i 2 = 0 from h, if_pos h]; rfl
  · rw [show Nat.mod i 2 = 1 from h, if_neg (by omega)]; rfl

theorem unpath_pathN : ∀ (f i : Nat), i ≤ f → unpath (pathN f i) = i
  | 0, i, h => by have : i = 0 := by omega
                  subst this; rfl
  | f + 1, 0, _ => rfl
  | f + 1, i + 1, h => by
    rw [pathN_succ]
    show 2 * unpath (pathN f (i / 2)) + _ + 1 = _
    rw [unpath_pathN f (i / 2) (by omega)]
    have : i % 2 = 0 ∨ i % 2 = 1 := by omega
    rcases this with h | h <;> simp [h] <;> omega

theorem path_inj {i j : Nat} (h : path i = path j) : i = j := by
  rw [← unpath_pathN i i (Nat.le_refl _), ← unpath_pathN j j (Nat.le_refl _)]
  exact congrArg unpath h

theorem Tr.get_set {α : Type} (d x : α) (t : Tr α) (i j : Nat) : (t.set d i x).get d j = if i = j then x else t.get d j := by
  unfold Tr.get Tr.set
  rw [Tr.getC_setC]
  by_cases h : i = j
  · subst h; simp
  · rw [if_neg h, if_neg (fun e => h (path_inj e))]

/-- Abstract values: pointers by abstract block numbers. -/
inductive AV where
  | undef | nilp | nils | nilm | nilf | nili
  /-- an empty slice that is not nil; its capacity unknown (voidO), or zero (voidE) -/
  | voidO | voidE
  | flt (k : FloatKind) (n : Nat)
  | fn (f : Nat) (caps : List (Nat × Nat))
  | tuple (vs : List AV)
  | agg (cs : Tr AV) (n : Nat)
  | gptr (g off : Nat)
  | map (b : Nat)
  | str (bs : List Nat)
  /-- op = false: the capacity is c; op = true: it is the block's less c -/
  | slice (b off len : Nat) (op : Bool) (c : Nat)
  | ptr (b off : Nat)
  | bool (b : Bool)
  | int (k : IntKind) (n : Int)
  /-- the yield of a loop over a function -/
  | yld (b : Nat)

abbrev TT := Tr AV

/-- An abstract block: esz = 0: its size is known (closed); esz = z + 1: grown by append, elements of z + 1 cells, capacity unknown. -/
inductive ABlk where
  | dead
  | map (es : List (AV × AV))
  | cells (cs : TT) (n : Nat) (esz : Nat) (clean : Bool)
  /-- a loop over a function: is a round under way? -/
  | loop (busy : Bool) (t : TT) (fn nt : Nat) (ps : List Nat) (asg body : Code)
  /-- the place of a frame's collected deferred calls: none -/
  | dfl

abbrev HH := Tr ABlk

noncomputable def tget (t : TT) (i : Nat) : AV := Tr.get .undef t i
noncomputable def tset (t : TT) (i : Nat) (v : AV) : TT := Tr.set .undef t i v
noncomputable def hget (h : HH) (i : Nat) : ABlk := Tr.get .dead h i
noncomputable def hset (h : HH) (i : Nat) (b : ABlk) : HH := Tr.set .dead h i b

theorem tget_tset (t : TT) (i j : Nat) (v : AV) : tget (tset t i v) j = if i = j then v else tget t j := Tr.get_set _ _ _ _ _
theorem hget_hset (h : HH) (i j : Nat) (b : ABlk) : hget (hset h i b) j = if i = j then b else hget h j := Tr.get_set _ _ _ _ _
theorem tget_nil (i : Nat) : tget .nil i = .undef := Tr.getC_nil _ _
theorem hget_nil (i : Nat) : hget .nil i = .dead := Tr.getC_nil _ _

/-- Where an abstract block lies: the concrete block, the offset of its first cell, its capacity in elements. -/
structure G where
  c : Nat
  d : Nat
  cap : Nat

abbrev Gam := Nat → Option G

/-- Γ' is Γ below n, and knows all that Γ knows -/
def Gam.le (Γ Δ : Gam) : Prop := ∀ b g, Γ b = some g → Δ b = some g
theorem Gam.le_refl (Γ : Gam) : Γ.le Γ := fun _ _ h => h
theorem Gam.le_trans {Γ Δ Ε : Gam} (h : Γ.le Δ) (k : Δ.le Ε) : Γ.le Ε := fun b g e => k b g (h b g e)
def Gam.put (Γ : Gam) (b : Nat) (g : G) : Gam := fun i => if i = b then some g else Γ i
theorem Gam.le_put {Γ : Gam} {b : Nat} {g : G} (h : Γ b = none) : Γ.le (Γ.put b g) := fun i x e => by
  unfold Gam.put
  by_cases hi : i = b
  · subst hi; rw [h] at e; cases e
  · rw [if_neg hi]; exact e
theorem Gam.put_self (Γ : Gam) (b : Nat) (g : G) : Γ.put b g b = some g := by simp [Gam.put]
theorem Gam.put_ne (Γ : Gam) {b i : Nat} (g : G) (h : i ≠ b) : Γ.put b g i = Γ i := by simp [Gam.put, h]

def Gam.ext (n : Nat) (Γ Δ : Gam) : Prop := Γ.le Δ ∧ ∀ b, b < n → Δ b = Γ b
theorem Gam.ext_refl (n : Nat) (Γ : Gam) : Gam.ext n Γ Γ := ⟨Gam.le_refl _, fun _ _ => rfl⟩
theorem Gam.ext_trans {n m : Nat} {Γ Δ Ε : Gam} (h : Gam.ext n Γ Δ) (hnm : n ≤ m) (k : Gam.ext m Δ Ε) : Gam.ext n Γ Ε :=
  ⟨Gam.le_trans h.1 k.1, fun b hb => by rw [k.2 b (by omega), h.2 b hb]⟩
theorem Gam.ext_put {n b : Nat} {Γ : Gam} {g : G} (h : Γ b = none) (hn : n ≤ b) : Gam.ext n Γ (Γ.put b g) :=
  ⟨Gam.le_put h, fun i hi => Gam.put_ne _ _ (by omega)⟩

def bytesOf (bs : List Nat) : ByteArray := ⟨(bs.map UInt8.ofNat).toArray⟩

inductive VR (Γ : Gam) : AV → Value → Prop where
  | undef : VR Γ .undef (.tuple #[])
  | nilp : VR Γ .nilp (.pointer none)
  | nils : VR Γ .nils (.slice none 0 0)
  | nilm : VR Γ .nilm (.map none)
  | nilf : VR Γ .nilf .nilFunc
  | nili : VR Γ .nili .nilIface
  | voidO (a : Addr) (c : Nat) : VR Γ .voidO (.slice (some a) 0 c)
  | voidE (a : Addr) : VR Γ .voidE (.slice (some a) 0 0)
  | flt (k : FloatKind) (n : Nat) : VR Γ (.flt k n) (.float k n)
  | fn (f : Nat) (caps : List (Nat × Nat)) (cs : Array Value) (hl : cs.size = caps.length)
      (h : ∀ i (hi : i < caps.length), ∃ g, Γ (caps[i].1) = some g ∧ cs[i]? = some (.pointer (some ⟨g.c, g.d + caps[i].2, none⟩))) :
      VR Γ (.fn f caps) (.func (.func f) #[] cs)
  | tuple (vs : List AV) (Vs : Array Value) (hl : Vs.size = vs.length) (h : ∀ i (hi : i < vs.length) (hi' : i < Vs.size), VR Γ vs[i] Vs[i]) : VR Γ (.tuple vs) (.tuple Vs)
  | agg (cs : TT) (n : Nat) (Cs : Array Value) (hl : Cs.size = n) (h : ∀ i (hi : i < Cs.size), VR Γ (tget cs i) Cs[i]) (h1 : ∀ i (hi : i < Cs.size), Cs[i].oneCell' = true) : VR Γ (.agg cs n) (.agg Cs)
  | gptr (g off : Nat) : VR Γ (.gptr g off) (.pointer (some ⟨g, off, none⟩))
  | map (b : Nat) (g : G) (h : Γ b = some g) : VR Γ (.map b) (.map (some g.c))
  | str (bs : List Nat) : VR Γ (.str bs) (.string (bytesOf bs))
  | sliceE (b off len c : Nat) (g : G) (h : Γ b = some g) : VR Γ (.slice b off len false c) (.slice (some ⟨g.c, g.d + off, none⟩) len c)
  | sliceO (b off len c : Nat) (g : G) (h : Γ b = some g) (hl : len ≤ g.cap - c) : VR Γ (.slice b off len true c) (.slice (some ⟨g.c, g.d + off, none⟩) len (g.cap - c))
  | ptr (b off : Nat) (g : G) (h : Γ b = some g) : VR Γ (.ptr b off) (.pointer (some ⟨g.c, g.d + off, none⟩))
  | bool (b : Bool) : VR Γ (.bool b) (.bool b)
  | int (k : IntKind) (n : Int) : VR Γ (.int k n) (.int k n)
  | yld (b : Nat) (g : G) (h : Γ b = some g) : VR Γ (.yld b) (.func (.yield g.c) #[] #[])

theorem VR.mono {Γ Δ : Gam} (le : Γ.le Δ) {v : AV} {V : Value} (h : VR Γ v V) : VR Δ v V := by
  induction h with
  | undef => exact .undef
  | nilp => exact .nilp
  | nils => exact .nils
  | nilm => exact .nilm
  | nilf => exact .nilf
  | nili => exact .nili
  | voidO a c => exact .voidO a c
  | voidE a => exact .voidE a
  | flt k n => exact .flt k n
  | fn f caps cs hl h => exact .fn f caps cs hl (fun i hi => let ⟨g, h1, h2⟩ := h i hi; ⟨g, le _ _ h1, h2⟩)
  | tuple vs Vs hl _ ih => exact .tuple vs Vs hl ih
  | agg cs n Cs hl _ h1 ih => exact .agg cs n Cs hl ih h1
  | gptr g off => exact .gptr g off
  | map b g h => exact .map b g (le _ _ h)
  | str bs => exact .str bs
  | sliceE b off len c g h => exact .sliceE b off len c g (le _ _ h)
  | sliceO b off len c g h hl => exact .sliceO b off len c g (le _ _ h) hl
  | ptr b off g h => exact .ptr b off g (le _ _ h)
  | bool b => exact .bool b
  | int k n => exact .int k n
  | yld b g h => exact .yld b g (le _ _ h)

/-- A concrete object is what an abstract block says. -/
inductive OR (Γ : Gam) (g : G) : ABlk → Obj → Prop where
  | dead (o : Obj) : OR Γ g .dead o
  | map (es : List (AV × AV)) (ES : Array MapEntry) (clock : Nat) (hl : ES.size = es.length)
      (h : ∀ i (hi : i < es.length) (hi' : i < ES.size), VR Γ es[i].1 ES[i].key ∧ VR Γ es[i].2 ES[i].val) (hd : g.d = 0) : OR Γ g (.map es) (.map ES clock)
  | cells (cs : TT) (n esz : Nat) (clean : Bool) (C : Array Value) (elem : TypeId) (lo hi : Nat)
      (hc : ∀ i, i < n → ∃ V, C[g.d + i]? = some V ∧ VR Γ (tget cs i) V ∧ V.oneCell' = true)
      (hf : (lo = 0 ∧ hi = 0) ∨ (clean = false ∧ C.size ≤ lo))
      (ho : esz ≠ 0 → g.d + g.cap * esz ≤ C.size ∧ n ≤ g.cap * esz) : OR Γ g (.cells cs n esz clean) (.cells C elem (lo, hi))
  | loop (busy : Bool) (t : TT) (fn nt : Nat) (ps : List Nat) (asg body : Code) (r : Loop) (hs : r.state = if busy then .busy else .ready) (hfn : r.fn = fn) (hps : r.params = ps.toArray)
      (ha : r.assign = asg) (hb : r.body = body) (hp : r.pending = none) (ht : ∀ i, VR Γ (tget t i) (r.tmps.getD i undef)) (hnt : nt ≤ r.tmps.size) : OR Γ g (.loop busy t fn nt ps asg body) (.loop r)
  | dfl : OR Γ g .dfl (.deferred (some []))

theorem OR.mono {Γ Δ : Gam} (le : Γ.le Δ) {g : G} {b : ABlk} {o : Obj} (h : OR Γ g b o) : OR Δ g b o := by
  cases h with
  | dead o => exact .dead o
  | map es ES clock hl h hd => exact .map es ES clock hl (fun i hi hi' => ⟨(h i hi hi').1.mono le, (h i hi hi').2.mono le⟩) hd
  | cells cs n esz clean C elem lo hi hc hf ho => exact .cells cs n esz clean C elem lo hi (fun i hi => let ⟨V, h1, h2, h3⟩ := hc i hi; ⟨V, h1, h2.mono le, h3⟩) hf ho
  | loop busy t fn nt ps asg body r hs hfn hps ha hb hp ht hnt => exact .loop busy t fn nt ps asg body r hs hfn hps ha hb hp (fun i => (ht i).mono le) hnt
  | dfl => exact .dfl

def live (h : HH) (b : Nat) : Prop := hget h b ≠ .dead

/-- The concrete world w is what the abstract heap h says (blocks from base.heap.size on; below that all is as in base). -/
structure Rel (base : World) (Γ : Gam) (h : HH) (n : Nat) (w : World) : Prop where
  os : w.os = base.os
  tape : w.tape = base.tape
  output : w.output = base.output
  size : base.heap.size ≤ w.heap.size
  old : ∀ c, c < base.heap.size → w.heap[c]? = base.heap[c]?
  rng : ∀ b g, Γ b = some g → base.heap.size ≤ g.c ∧ g.c < w.heap.size
  fresh : ∀ b, n ≤ b → Γ b = none
  blk : ∀ b g, Γ b = some g → ∃ o, w.heap[g.c]? = some o ∧ OR Γ g (hget h b) o
  inj : ∀ b b' g g', live h b → live h b' → Γ b = some g → Γ b' = some g' → g.c = g'.c → b = b'

def RelT (Γ : Gam) (t : TT) (tmps : Array Value) : Prop := ∀ i, VR Γ (tget t i) (tmps.getD i undef)

theorem RelT.mono {Γ Δ : Gam} (le : Γ.le Δ) {t : TT} {tmps : Array Value} (h : RelT Γ t tmps) : RelT Δ t tmps := fun i => (h i).mono le

inductive VRs (Γ : Gam) : List AV → List Value → Prop where
  | nil : VRs Γ [] []
  | cons {v : AV} {V : Value} {vs : List AV} {Vs : List Value} (h : VR Γ v V) (t : VRs Γ vs Vs) : VRs Γ (v :: vs) (V :: Vs)

theorem VRs.mono {Γ Δ : Gam} (le : Γ.le Δ) {vs : List AV} {Vs : List Value} (h : VRs Γ vs Vs) : VRs Δ vs Vs := by
  induction h with
  | nil => exact .nil
  | cons h _ ih => exact .cons (h.mono le) ih

end Go.Ae
