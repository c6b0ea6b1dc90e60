/- The abstract evaluator: soundness of operations, the second part. -/
import Derived.Test.YtjmammdlefbemaaGreatDoorAeC
set_option linter.unusedVariables false
namespace Go.Ae

def ValOK (P : Program) (C : Ctx) (o : Oper) (f : TT → HH → (AV → Nat) → Nat) : Prop :=
  ∀ t h k, f t h k = 0 → ∃ v, k v = 0 ∧ ∀ base Γ n w (a : Act), GlOK C base → Rel base Γ h n w → RelT Γ t a.tmps →
    ∃ V, (execOp a.eval o).run P w = .ok (.value V) w ∧ VR Γ v V

def AlcOK (P : Program) (C : Ctx) (o : Oper) (f : TT → HH → (ABlk → (Nat → AV) → Nat) → Nat) : Prop :=
  ∀ t h k, f t h k = 0 → ∃ B mk, k B mk = 0 ∧ ∀ base Γ n w (a : Act), GlOK C base → Rel base Γ h n w → RelT Γ t a.tmps →
    ∃ V obj cap dr, (execOp a.eval o).run P w = .ok (.value V) { w with heap := w.heap.push obj, drawn := dr } ∧
      ∀ id, Γ id = none → VR (Γ.put id ⟨w.heap.size, 0, cap⟩) (mk id) V ∧ OR (Γ.put id ⟨w.heap.size, 0, cap⟩) ⟨w.heap.size, 0, cap⟩ B obj

def WrOK (P : Program) (C : Ctx) (o : Oper) (f : TT → HH → Nat → (AV → HH → Nat → Nat) → Nat) : Prop :=
  ∀ t h n k, f t h n k = 0 → ∃ v h' n', k v h' n' = 0 ∧ n ≤ n' ∧ ∀ base Γ w (a : Act), GlOK C base → Rel base Γ h n w → RelT Γ t a.tmps →
    ∃ Γ' w' N V, Gam.ext n Γ Γ' ∧ Rel base Γ' h' n' w' ∧ (execOp a.eval o).run P w = .ok N w' ∧ VR Γ' v V ∧ (N = .value V ∨ (N = .skip ∧ V = undef))

def CallOKop (P : Program) (C : Ctx) (o : Oper) (f : TT → (Nat → List AV → Nat) → Nat) : Prop :=
  ∀ t k, f t k = 0 → ∃ fn args, k fn args = 0 ∧ ∀ base Γ h n w (a : Act), GlOK C base → Rel base Γ h n w → RelT Γ t a.tmps →
    ∃ As : Array Value, (execOp a.eval o).run P w = .ok (.enter fn As) w ∧ VRs Γ args As.toList

def CallVOK (P : Program) (C : Ctx) (o : Oper) (f : TT → (Nat → List AV → Nat) → (Nat → List AV → Nat) → Nat) : Prop :=
  ∀ t k ky, f t k ky = 0 → (∃ fn args, k fn args = 0 ∧ ∀ base Γ h n w (a : Act), GlOK C base → Rel base Γ h n w → RelT Γ t a.tmps →
    ∃ As : Array Value, (execOp a.eval o).run P w = .ok (.enter fn As) w ∧ VRs Γ args As.toList) ∨
    (∃ b args, ky b args = 0 ∧ ∀ base Γ h n w (a : Act), GlOK C base → Rel base Γ h n w → RelT Γ t a.tmps →
    ∃ (As : Array Value) (g : G), Γ b = some g ∧ (execOp a.eval o).run P w = (Instr.yield g.c As).run P w ∧ VRs Γ args As.toList)

def DfrOK (P : Program) (C : Ctx) (o : Oper) (f : TT → (Nat → List AV → Nat) → Nat) : Prop :=
  ∀ t k, f t k = 0 → ∃ fn args, k fn args = 0 ∧ ∀ base Γ h n w (a : Act), GlOK C base → Rel base Γ h n w → RelT Γ t a.tmps →
    ∃ D : Deferred, (execOp a.eval o).run P w = .ok (.defer D) w ∧ (∃ fv cap, D.target = .fn fv cap) ∧ ∃ As : Array Value, (∀ w', (invoke D.target D.args).run P w' = .ok (.enter fn As) w') ∧ VRs Γ args As.toList

def KOK (P : Program) (C : Ctx) (o : Oper) : K → Prop
  | .bad => True
  | .val f => ValOK P C o f
  | .alc f => AlcOK P C o f
  | .wr f => WrOK P C o f
  | .call f => CallOKop P C o f
  | .callv f => CallVOK P C o f
  | .dfr f => DfrOK P C o f
  | .rcv => ∀ (a : Act) w, (execOp a.eval o).run P w = .ok .recover w

section inv
variable {Γ : Gam} {V : Value}
theorem VR.bool_inv {b : Bool} (h : VR Γ (.bool b) V) : V = .bool b := by cases h; rfl
theorem VR.int_inv {k : IntKind} {n : Int} (h : VR Γ (.int k n) V) : V = .int k n := by cases h; rfl
theorem VR.str_inv {bs : List Nat} (h : VR Γ (.str bs) V) : V = .string (bytesOf bs) := by cases h; rfl
theorem VR.flt_inv {k : FloatKind} {n : Nat} (h : VR Γ (.flt k n) V) : V = .float k n := by cases h; rfl
theorem VR.nils_inv (h : VR Γ .nils V) : V = .slice none 0 0 := by cases h; rfl
theorem VR.nilp_inv (h : VR Γ .nilp V) : V = .pointer none := by cases h; rfl
theorem VR.nili_inv (h : VR Γ .nili V) : V = .nilIface := by cases h; rfl
theorem VR.yld_inv {b : Nat} (h : VR Γ (.yld b) V) : ∃ g, Γ b = some g ∧ V = .func (.yield g.c) #[] #[] := by cases h; exact ⟨_, by assumption, rfl⟩
theorem VR.undef_inv (h : VR Γ .undef V) : V = Go.undef := by cases h; rfl
theorem VR.gptr_inv {g off : Nat} (h : VR Γ (.gptr g off) V) : V = .pointer (some ⟨g, off, none⟩) := by cases h; rfl
theorem VR.voidO_inv (h : VR Γ .voidO V) : ∃ a c, V = .slice (some a) 0 c := by cases h; exact ⟨_, _, rfl⟩
theorem VR.voidE_inv (h : VR Γ .voidE V) : ∃ a, V = .slice (some a) 0 0 := by cases h; exact ⟨_, rfl⟩
theorem VR.ptr_inv {b off : Nat} (h : VR Γ (.ptr b off) V) : ∃ g, Γ b = some g ∧ V = .pointer (some ⟨g.c, g.d + off, none⟩) := by cases h; exact ⟨_, by assumption, rfl⟩
theorem VR.map_inv {b : Nat} (h : VR Γ (.map b) V) : ∃ g, Γ b = some g ∧ V = .map (some g.c) := by cases h; exact ⟨_, by assumption, rfl⟩
theorem VR.sliceE_inv {b off len c : Nat} (h : VR Γ (.slice b off len false c) V) : ∃ g, Γ b = some g ∧ V = .slice (some ⟨g.c, g.d + off, none⟩) len c := by cases h; exact ⟨_, by assumption, rfl⟩
theorem VR.sliceO_inv {b off len c : Nat} (h : VR Γ (.slice b off len true c) V) : ∃ g, Γ b = some g ∧ V = .slice (some ⟨g.c, g.d + off, none⟩) len (g.cap - c) ∧ len ≤ g.cap - c := by cases h; exact ⟨_, by assumption, rfl, by assumption⟩
theorem VR.slice_inv {b off len c : Nat} {op : Bool} (h : VR Γ (.slice b off len op c) V) : ∃ g, Γ b = some g ∧ V = .slice (some ⟨g.c, g.d + off, none⟩) len (if op then g.cap - c else c) := by
  cases h <;> exact ⟨_, by assumption, rfl⟩
theorem VR.agg_inv {cs : TT} {n : Nat} (h : VR Γ (.agg cs n) V) : ∃ Cs, V = .agg Cs ∧ Cs.size = n ∧ (∀ i (hi : i < Cs.size), VR Γ (tget cs i) Cs[i]) ∧ (∀ i (hi : i < Cs.size), Cs[i].oneCell' = true) := by
  cases h; exact ⟨_, rfl, by assumption, by assumption, by assumption⟩
theorem VR.tuple_inv {vs : List AV} (h : VR Γ (.tuple vs) V) : ∃ Vs, V = .tuple Vs ∧ Vs.size = vs.length ∧ (∀ i (hi : i < vs.length) (hi' : i < Vs.size), VR Γ vs[i] Vs[i]) := by
  cases h; exact ⟨_, rfl, by assumption, by assumption⟩
theorem VR.fn_inv {f : Nat} {caps : List (Nat × Nat)} (h : VR Γ (.fn f caps) V) : ∃ cs, V = .func (.func f) #[] cs ∧ cs.size = caps.length ∧
    ∀ i (hi : i < caps.length), ∃ g, Γ (caps[i].1) = some g ∧ cs[i]? = some (.pointer (some ⟨g.c, g.d + caps[i].2, none⟩)) := by
  cases h; exact ⟨_, rfl, by assumption, by assumption⟩
end inv

def Gam.none' : Gam := fun _ => none

theorem cells_one {V : Value} (h : V.oneCell' = true) : V.cells = #[V] := by cases V <;> first | rfl | (simp [Value.oneCell'] at h)

theorem run_list_mapM {P : Program} {α β : Type} (f : α → Sem β) (g : α → β) : ∀ (l : List α), (∀ x ∈ l, ∀ w, (f x).run P w = .ok (g x) w) → ∀ w, (l.mapM f).run P w = .ok (l.map g) w
  | [], _, w => by simp
  | x :: l, h, w => by
    simp [List.mapM_cons, h x (by simp), run_list_mapM f g l (fun y hy => h y (by simp [hy]))]

theorem run_array_mapM {P : Program} {α β : Type} (f : α → Sem β) (g : α → β) (xs : Array α) (h : ∀ x ∈ xs.toList, ∀ w, (f x).run P w = .ok (g x) w) (w : World) :
    (xs.mapM f).run P w = .ok (xs.map g) w := by
  rw [Array.mapM_eq_mapM_toList]
  simp [run_list_mapM f g xs.toList h]
  apply Array.ext'
  simp

/-- cells as an accumulated tree says -/
def AccOK (Γ : Gam) (acc : TT) (cells : Array Value) : Prop := ∀ i (hi : i < cells.size), VR Γ (tget acc i) cells[i] ∧ cells[i].oneCell' = true

theorem fold_set (off : Nat) : ∀ (l : List Value) (j : Nat) (cells : Array Value),
    ((l.zipIdx j).foldl (fun cs (x : Value × Nat) => cs.setIfInBounds (off + x.2) x.1) cells).size = cells.size ∧
    ∀ i, ((l.zipIdx j).foldl (fun cs (x : Value × Nat) => cs.setIfInBounds (off + x.2) x.1) cells)[i]? =
      if off + j ≤ i ∧ i < off + j + l.length ∧ i < cells.size then l[i - (off + j)]? else cells[i]?
  | [], j, cells => ⟨rfl, fun i => by rw [if_neg (by simp only [List.length_nil]; omega)]; rfl⟩
  | v :: l, j, cells => by
    obtain ⟨h1, h2⟩ := fold_set off l (j + 1) (cells.setIfInBounds (off + j) v)
    simp only [List.zipIdx_cons, List.foldl_cons]
    refine ⟨by simpa using h1, fun i => ?_⟩
    rw [h2 i]
    simp only [Array.size_setIfInBounds, List.length_cons]
    by_cases hi : i = off + j
    · subst hi
      rw [if_neg (by omega)]
      by_cases hs : off + j < cells.size
      · rw [if_pos (by omega)]; simp [hs]
      · rw [if_neg (by omega)]; simp [hs]
    · rw [Array.getElem?_setIfInBounds_ne (by omega)]
      by_cases hc : off + (j + 1) ≤ i ∧ i < off + (j + 1) + l.length ∧ i < cells.size
      · rw [if_pos hc, if_pos (by omega), show i - (off + j) = (i - (off + (j + 1))) + 1 by omega, List.getElem?_cons_succ]
      · rw [if_neg hc, if_neg (by omega)]

theorem fold_set_array (off : Nat) (cs cells : Array Value) :
    (cs.zipIdx.foldl (fun cs (x : Value × Nat) => cs.setIfInBounds (off + x.2) x.1) cells).size = cells.size ∧
    ∀ i, (cs.zipIdx.foldl (fun cs (x : Value × Nat) => cs.setIfInBounds (off + x.2) x.1) cells)[i]? =
      if off ≤ i ∧ i < off + cs.size ∧ i < cells.size then cs[i - off]? else cells[i]? := by
  have := fold_set off cs.toList 0 cells
  rw [← Array.foldl_toList, Array.toList_zipIdx]
  simpa using this

section
variable {P : Program} {C : Ctx} (H : CtxOK P C) {e : Nat} (he : e ≠ 0)

theorem kMove_ok {o : Oper} {x : Operand} (hx : ∀ a : Act, execOp a.eval o = pure (.value (a.eval x))) {k : K} (h : kMove x = some k) : KOK P C o k := by
  simp only [kMove, Option.bind_eq_bind, Option.bind_eq_some_iff] at h
  obtain ⟨g, hg, h⟩ := h
  cases h
  intro t h k hk
  refine ⟨_, hk, fun base Γ n w a hgl R ht => ⟨_, by rw [hx a]; rfl, opG_ok hg ht⟩⟩

include he in
theorem kPick_ok {o : Oper} {c x y : Operand} (ho : o.op = .pick c x y) {k : K} (h : kPick e c x y = some k) : KOK P C o k := by
  simp only [kPick, Option.bind_eq_bind, Option.bind_eq_some_iff] at h
  obtain ⟨gc, hgc, ga, hga, gb, hgb, h⟩ := h
  cases h
  intro t h k hk
  obtain ⟨b, hb, hk⟩ := asBool_ok he hk
  refine ⟨if b then ga t else gb t, by cases b <;> exact hk, fun base Γ n w a hgl R ht => ?_⟩
  have h1 := opG_ok hgc ht
  rw [hb] at h1
  refine ⟨if b then a.eval x else a.eval y, ?_, ?_⟩
  · simp [execOp, ho, h1.bool_inv, Go.asBool]
  · cases b
    · exact opG_ok hgb ht
    · exact opG_ok hga ht

include H in
theorem kAlloc_ok {o : Oper} {ty : Nat} (ho : o.op = .alloc ty) {k : K} (h : kAlloc C ty = some k) : KOK P C o k := by
  simp only [kAlloc, zeroCells, Option.bind_eq_bind, Option.bind_eq_some_iff] at h
  obtain ⟨⟨z, m⟩, ⟨i, hi, zv, hz, l, hl, h0⟩, h⟩ := h
  cases h0
  cases h
  intro t h k hk
  refine ⟨_, _, hk, fun base Γ n w a hgl R ht => ?_⟩
  refine ⟨.pointer (some ⟨w.heap.size, 0, none⟩), .cells zv.cells ty (0, 0), 0, w.drawn, ?_, fun id hid => ⟨?_, ?_⟩⟩
  · simp [execOp, ho, Instr.alloc, zeroValue, H.info hi, hz, newVar, newRow]
  · exact .ptr id 0 _ (Gam.put_self _ _ _)
  · obtain ⟨h1, h2⟩ := fill_ok hl (Γ.put id ⟨w.heap.size, 0, 0⟩)
    refine .cells _ _ _ _ _ _ _ _ (fun j hj => ?_) (.inl ⟨rfl, rfl⟩) (fun hz => absurd rfl hz)
    have hj' : j < zv.cells.size := by omega
    refine ⟨zv.cells[j], by simp [hj'], (h2 j hj').1, (h2 j hj').2⟩

theorem or_cells {Γ : Gam} {c cap : Nat} {acc : TT} {cells : Array Value} (ty : TypeId) {n : Nat} (hn : n = cells.size) (h : AccOK Γ acc cells) : OR Γ ⟨c, 0, cap⟩ (.cells acc n 0 true) (.cells cells ty (0, 0)) := by
  refine .cells _ _ _ _ _ _ _ _ (fun j hj => ?_) (.inl ⟨rfl, rfl⟩) (fun hz => absurd rfl hz)
  have hj' : j < cells.size := by omega
  exact ⟨cells[j], by simp [hj'], (h j hj').1, (h j hj').2⟩

include he in
theorem kBox_ok {o : Oper} {ty : Nat} {x : Operand} (ho : o.op = .box ty x) {k : K} (h : kBox e x = some k) : KOK P C o k := by
  simp only [kBox, Option.bind_eq_bind, Option.bind_eq_some_iff] at h
  obtain ⟨g, hg, h⟩ := h
  cases h
  intro t h k hk
  rcases asCells_ok he hk with ⟨cs, m, hv, hk⟩ | ⟨hk, h1⟩
  · refine ⟨_, _, hk, fun base Γ n w a hgl R ht => ?_⟩
    have hr := opG_ok hg ht
    rw [hv] at hr
    obtain ⟨Cs, hV, hs, hc, h1⟩ := hr.agg_inv
    refine ⟨.pointer (some ⟨w.heap.size, 0, none⟩), .cells Cs ty (0, 0), 0, w.drawn, ?_, fun id hid => ⟨.ptr id 0 _ (Gam.put_self _ _ _), ?_⟩⟩
    · simp [execOp, ho, Instr.box, newVar, newRow, hV, Value.cells]
    · exact or_cells ty hs.symm (fun i hi => ⟨(hc i hi).mono (Gam.le_put hid), h1 i hi⟩)
  · refine ⟨_, _, hk, fun base Γ n w a hgl R ht => ?_⟩
    have hr := opG_ok hg ht
    have h1 := h1 _ _ hr
    refine ⟨.pointer (some ⟨w.heap.size, 0, none⟩), .cells #[a.eval x] ty (0, 0), 0, w.drawn, ?_, fun id hid => ⟨.ptr id 0 _ (Gam.put_self _ _ _), ?_⟩⟩
    · simp [execOp, ho, Instr.box, newVar, newRow, cells_one h1]
    · refine or_cells ty rfl (fun i hi => ?_)
      have : i = 0 := by simp at hi; omega
      subst this
      rw [tget_tset, if_pos rfl]
      exact ⟨hr.mono (Gam.le_put hid), h1⟩

include he in
theorem buildL_ok {place : Nat → Option (Nat × Nat)} : ∀ (parts : List (Nat × Operand)) (l : List ((TT → AV) × Nat × Nat)), partsAt place parts = some l →
    ∀ (t : TT) (n : Nat) (acc : TT) (k : TT → Nat), buildL e l t n acc k = 0 → ∃ acc', k acc' = 0 ∧
      ∀ (Γ : Gam) (a : Act) (cells : Array Value), RelT Γ t a.tmps → cells.size = n → AccOK Γ acc cells →
        ∃ cells', Instr.fill place cells (parts.map fun p => (p.1, a.eval p.2)) = some cells' ∧ cells'.size = n ∧ AccOK Γ acc' cells'
  | [], l, hl, t, n, acc, k, hk => by
    cases hl
    exact ⟨acc, hk, fun Γ a cells _ hn hacc => ⟨cells, rfl, hn, hacc⟩⟩
  | (i, x) :: parts, l, hl, t, n, acc, k, hk => by
    unfold partsAt at hl
    split at hl
    · rename_i p g r hp hg hr
      cases hl
      obtain ⟨off, size⟩ := p
      have hk : asCells e (g t) (guardN e (Nat.beq size 1) (guardN e (Nat.blt off n) (buildL e r t n (tset acc off (g t)) k)))
        (fun cs m => guardN e (Nat.beq m size) (guardN e (Nat.ble (Nat.add off m) n) (buildL e r t n (copyT m cs 0 acc off) k))) = 0 := hk
      rcases asCells_ok he hk with ⟨cs, m, hv, hk⟩ | ⟨hk, h1⟩
      · obtain ⟨hm, hk⟩ := guardN_ok he hk
        obtain ⟨hle, hk⟩ := guardN_ok he hk
        have hm : m = size := Nat.eq_of_beq_eq_true hm
        have hle : off + m ≤ n := ble_le hle
        obtain ⟨acc', hk', ih⟩ := buildL_ok parts r hr t n _ k hk
        refine ⟨acc', hk', fun Γ a cells ht hn hacc => ?_⟩
        have hvr := opG_ok hg ht
        rw [hv] at hvr
        obtain ⟨Cs, hV, hs, hc, h1⟩ := hvr.agg_inv
        obtain ⟨f1, f2⟩ := fold_set_array off Cs cells
        obtain ⟨cells', hf, hsz, hok⟩ := ih Γ a (Cs.zipIdx.foldl (fun cs (x : Value × Nat) => cs.setIfInBounds (off + x.2) x.1) cells) ht (f1.trans hn) (fun i hi => by
          rw [tget_copyT]
          have hi' : i < cells.size := by rw [f1] at hi; exact hi
          have hg := f2 i
          rw [Array.getElem?_eq_getElem hi] at hg
          by_cases hin : off ≤ i ∧ i < off + m
          · rw [if_pos hin]
            rw [if_pos ⟨hin.1, by omega, hi'⟩] at hg
            have hlt : i - off < Cs.size := by omega
            rw [Array.getElem?_eq_getElem hlt] at hg
            simp only [Option.some.injEq] at hg
            rw [hg, Nat.zero_add]
            exact ⟨hc _ hlt, h1 _ hlt⟩
          · rw [if_neg hin]
            rw [if_neg (by omega), Array.getElem?_eq_getElem hi'] at hg
            simp only [Option.some.injEq] at hg
            rw [hg]
            exact hacc i hi')
        refine ⟨cells', ?_, hsz, hok⟩
        simp only [List.map_cons, Instr.fill, hp, hV]
        split
        · rename_i hc
          simp [Value.cells] at hc
          rcases hc with hc | hc
          · exact absurd (hs.trans hm) (of_decide_eq_true hc)
          · omega
        · exact hf
      · obtain ⟨hm, hk⟩ := guardN_ok he hk
        obtain ⟨hle, hk⟩ := guardN_ok he hk
        have hm : size = 1 := Nat.eq_of_beq_eq_true hm
        have hle : off < n := blt_lt hle
        obtain ⟨acc', hk', ih⟩ := buildL_ok parts r hr t n _ k hk
        refine ⟨acc', hk', fun Γ a cells ht hn hacc => ?_⟩
        have hvr := opG_ok hg ht
        have h1 := h1 _ _ hvr
        obtain ⟨cells', hf, hsz, hok⟩ := ih Γ a (cells.setIfInBounds off (a.eval x)) ht (by simpa using hn) (fun i hi => by
          rw [tget_tset]
          simp only [Array.size_setIfInBounds] at hi
          by_cases ho : off = i
          · subst ho
            rw [if_pos rfl]
            simp only [Array.getElem_setIfInBounds_self]
            exact ⟨hvr, h1⟩
          · rw [if_neg ho]
            rw [Array.getElem_setIfInBounds_ne _ (by omega)]
            exact hacc i hi)
        refine ⟨cells', ?_, hsz, hok⟩
        simp only [List.map_cons, Instr.fill, hp, cells_one h1]
        split
        · rename_i hc
          simp at hc
          omega
        · simpa using hf
    · cases hl

theorem placesOf_ok : ∀ {fs : List Field} {ps : List (Nat × Nat)}, placesOf C fs = some ps → (∀ f ∈ fs, ∃ s, C.size f.type = some s) ∧ ps = fs.map (fun f => (f.offset, (C.size f.type).getD 0))
  | [], ps, h => by cases h; exact ⟨fun f hf => by simp at hf, rfl⟩
  | f :: fs, ps, h => by
    unfold placesOf at h
    split at h
    · rename_i s r hs hr
      cases h
      obtain ⟨h1, h2⟩ := placesOf_ok hr
      refine ⟨fun x hx => ?_, by simp [hs, h2]⟩
      rcases List.mem_cons.1 hx with rfl | hx
      · exact ⟨s, hs⟩
      · exact h1 x hx
    · cases h

include H in
theorem zeroCells_ok {ty : Nat} {z : TT} {n : Nat} (h : zeroCells C ty = some (z, n)) : ∃ zv, (∀ w, (zeroValue ty).run P w = .ok zv w) ∧ zv.cells.size = n ∧ ∀ Γ, AccOK Γ z zv.cells := by
  simp only [zeroCells, Option.bind_eq_bind, Option.bind_eq_some_iff] at h
  obtain ⟨i, hi, zv, hz, l, hl, h⟩ := h
  cases h
  exact ⟨zv, fun w => by simp [zeroValue, H.info hi, hz], (fill_ok hl Gam.none').1, fun Γ j hj => (fill_ok hl Γ).2 j hj⟩

include H he in
theorem kBuild_ok {o : Oper} {ty : Nat} {parts : Array (Nat × Operand)} (ho : o.op = .build ty parts) {k : K} (h : kBuild C e ty parts.toList = some k) : KOK P C o k := by
  simp only [kBuild, Option.bind_eq_bind, Option.bind_eq_some_iff] at h
  obtain ⟨⟨z, n⟩, hz, d, hd, h⟩ := h
  obtain ⟨zv, hzr, hzs, hzo⟩ := zeroCells_ok H hz
  have hu := H.und hd
  split at h
  · rename_i fields
    simp only [Option.bind_eq_some_iff] at h
    obtain ⟨ps, hps, l, hl, h⟩ := h
    cases h
    intro t h k hk
    obtain ⟨acc', hk', hb⟩ := buildL_ok he _ _ hl t n z _ hk
    refine ⟨_, hk', fun base Γ n' w a hgl R ht => ?_⟩
    obtain ⟨cells', hf, hsz, hok⟩ := hb Γ a zv.cells ht hzs (hzo Γ)
    refine ⟨.agg cells', ?_, .agg _ _ _ hsz (fun i hi => (hok i hi).1) (fun i hi => (hok i hi).2)⟩
    obtain ⟨p1, p2⟩ := placesOf_ok hps
    have hm : ∀ w, (fields.mapM (fun f => do pure (f.offset, ← sizeOf f.type)) : Sem (Array (Nat × Nat))).run P w = .ok (fields.map fun f => (f.offset, (C.size f.type).getD 0)) w := fun w =>
      run_array_mapM _ _ fields (fun f hf w => by
        obtain ⟨s, hs⟩ := p1 f hf
        simp [H.size hs, hs]) w
    have hpl : (fun (i : Nat) => (fields.map fun f => (f.offset, (C.size f.type).getD 0))[i]?) = (fun (i : Nat) => ps[i]?) := by
      funext i
      rw [p2]
      simp
    simp only [execOp, ho, Sem.run_bind, Instr.build, hzr, Result.andThen_ok, run_underlying hu, hm, hpl]
    simp [hf]
  · rename_i m elem
    simp only [Option.bind_eq_some_iff] at h
    obtain ⟨s, hs, l, hl, h⟩ := h
    cases h
    intro t h k hk
    obtain ⟨acc', hk', hb⟩ := buildL_ok he _ _ hl t n z _ hk
    refine ⟨_, hk', fun base Γ n' w a hgl R ht => ?_⟩
    obtain ⟨cells', hf, hsz, hok⟩ := hb Γ a zv.cells ht hzs (hzo Γ)
    refine ⟨.agg cells', ?_, .agg _ _ _ hsz (fun i hi => (hok i hi).1) (fun i hi => (hok i hi).2)⟩
    simp only [execOp, ho, Sem.run_bind, Instr.build, hzr, Result.andThen_ok, run_underlying hu, H.size hs]
    simp [hf]
  · cases h

include he in
theorem kNilCheck_ok {o : Oper} {x : Operand} (ho : o.op = .nilCheck x) {k : K} (h : kNilCheck e x = some k) : KOK P C o k := by
  simp only [kNilCheck, Option.bind_eq_bind, Option.bind_eq_some_iff] at h
  obtain ⟨g, hg, h⟩ := h
  cases h
  intro t h k hk
  obtain ⟨b, off, hv, hk⟩ := asPtr_ok he hk
  refine ⟨_, hk, fun base Γ n w a hgl R ht => ?_⟩
  have hr := opG_ok hg ht
  have hr' := hr
  rw [hv] at hr'
  obtain ⟨g', hg', hV⟩ := hr'.ptr_inv
  refine ⟨a.eval x, ?_, hr⟩
  simp [execOp, ho, hV]

theorem Rel.cells_at {base w : World} {Γ : Gam} {h : HH} {n : Nat} (R : Rel base Γ h n w) {b : Nat} {g : G} (hg : Γ b = some g) {cs : TT} {m z : Nat} {cl : Bool} (hb : hget h b = .cells cs m z cl)
    (off s : Nat) (hs : off + s ≤ m) : ∃ Cs : Array Value, Cs.size = s ∧ (∀ w', (∀ i, i < s → w'.cell? ⟨g.c, g.d + off + i, none⟩ = w.cell? ⟨g.c, g.d + off + i, none⟩) →
      (loadCells ⟨g.c, g.d + off, none⟩ s).run P w' = .ok Cs w') ∧ (∀ i (hi : i < Cs.size), VR Γ (tget cs (off + i)) Cs[i] ∧ Cs[i].oneCell' = true) := by
  refine ⟨((List.range s).map fun i => (w.cell? ⟨g.c, g.d + off + i, none⟩).getD undef).toArray, by simp, fun w' hw' => ?_, fun i hi => ?_⟩
  · refine run_loadCells w' ⟨g.c, g.d + off, none⟩ s (fun i => (w.cell? ⟨g.c, g.d + off + i, none⟩).getD undef) (fun i hi => ?_)
    obtain ⟨V, hV, _, _⟩ := R.cell hg hb (off := off + i) (by omega)
    have ha : (⟨g.c, g.d + off, none⟩ : Addr).add i = ⟨g.c, g.d + off + i, none⟩ := by
      unfold Addr.add; split
      · rename_i h0; subst h0; rfl
      · rfl
    rw [ha, hw' i hi, show g.d + off + i = g.d + (off + i) by omega, hV]
    rfl
  · simp only [List.size_toArray, List.length_map, List.length_range] at hi
    obtain ⟨V, hV, hr, h1, _⟩ := R.cell hg hb (off := off + i) (by omega)
    simp only [List.getElem_toArray, List.getElem_map, List.getElem_range]
    rw [show g.d + off + i = g.d + (off + i) by omega, hV]
    exact ⟨hr, h1⟩

include H he in
theorem kLoad_ok {o : Oper} {ty : Nat} {x : Operand} (ho : o.op = .load ty x) {k : K} (h : kLoad C e ty x = some k) : KOK P C o k := by
  simp only [kLoad, Option.bind_eq_bind, Option.bind_eq_some_iff] at h
  obtain ⟨g, hg, agg, hagg, s, hs, h⟩ := h
  split at h
  · rename_i hag
    subst hag
    cases h
    intro t h k hk
    obtain ⟨b, off, hv, hk⟩ := asPtr_ok he hk
    obtain ⟨cs, m, z, cl, hb, hk⟩ := blkCells_ok he hk
    obtain ⟨hle, hk⟩ := guardN_ok he hk
    have hle : off + s ≤ m := ble_le hle
    refine ⟨_, hk, fun base Γ n w a hgl R ht => ?_⟩
    have hr := opG_ok hg ht
    rw [hv] at hr
    obtain ⟨g', hg', hV⟩ := hr.ptr_inv
    obtain ⟨Cs, hCs, hload, hok⟩ := R.cells_at (P := P) hg' hb off s hle
    refine ⟨.agg Cs, ?_, .agg _ _ _ hCs (fun i hi => ?_) (fun i hi => (hok i hi).2)⟩
    · simp [execOp, ho, Instr.loadAt, hV, Instr.sureAddr, loadVar, H.isAgg hagg, H.size hs, hload w (fun _ _ => rfl)]
    · rw [tget_subT _ _ _ _ (by omega)]
      exact (hok i hi).1
  · rename_i hag
    have hag : agg = false := by simpa using hag
    subst hag
    cases h
    intro t h k hk
    cases hv : g t <;> simp only [hv] at hk <;> first
      | exact absurd hk he
      | skip
    · rename_i gb off
      cases hgv : C.gl gb off <;> simp only [hgv] at hk <;> first
        | exact absurd hk he
        | skip
      rename_i kd x'
      refine ⟨_, hk, fun base Γ n w a hgl R ht => ?_⟩
      have hr := opG_ok hg ht
      rw [hv] at hr
      have hV := hr.gptr_inv
      have hc := hgl gb off kd x' hgv
      have hlt : gb < base.heap.size := by
        rcases Nat.lt_or_ge gb base.heap.size with h | h
        · exact h
        · simp [World.cell?, Array.getElem?_eq_none h] at hc
      have hc' : w.cell? ⟨gb, off, none⟩ = some (.int kd x') := by
        rw [← hc]
        simp only [World.cell?, R.old gb hlt]
      refine ⟨_, ?_, .int kd x'⟩
      simp [execOp, ho, Instr.loadAt, hV, Instr.sureAddr, loadVar, H.isAgg hagg, hc']
    · rename_i b off
      obtain ⟨cs, m, z, cl, hb, hk⟩ := blkCells_ok he hk
      obtain ⟨hle, hk⟩ := guardN_ok he hk
      have hle : off < m := blt_lt hle
      refine ⟨_, hk, fun base Γ n w a hgl R ht => ?_⟩
      have hr := opG_ok hg ht
      rw [hv] at hr
      obtain ⟨g', hg', hV⟩ := hr.ptr_inv
      obtain ⟨V, hc, hvr, _, _⟩ := R.cell hg' hb hle
      refine ⟨V, ?_, hvr⟩
      simp [execOp, ho, Instr.loadAt, hV, Instr.sureAddr, loadVar, H.isAgg hagg, hc]

theorem Rel.storeCells {base : World} {Γ : Gam} {n : Nat} {b : Nat} {g : G} (hg : Γ b = some g) (vs : TT) : ∀ (Cs : List Value) (q j : Nat) {w : World} {h : HH} (R : Rel base Γ h n w) {cs : TT} {m z : Nat} {cl : Bool}
    (hb : hget h b = .cells cs m z cl) (off : Nat) (hs : off + j + Cs.length ≤ m) (hv : ∀ i (hi : i < Cs.length), VR Γ (tget vs (q + i)) Cs[i] ∧ Cs[i].oneCell' = true),
    ∃ w', (storeCells ⟨g.c, g.d + off, none⟩ Cs j).run P w = .ok () w' ∧
      Rel base Γ (Tr.set .dead h b (.cells (copyT Cs.length vs q cs (off + j)) m z cl)) n w' := by
  intro Cs
  induction Cs with
  | nil =>
    intro q j w h R cs m z cl hb off hs hv
    refine ⟨w, by simp [Go.storeCells], ?_⟩
    show Rel base Γ (hset h b (.cells cs m z cl)) n w
    refine ⟨R.os, R.tape, R.output, R.size, R.old, R.rng, R.fresh, fun x gx hx => ?_, fun x y gx gy hlx hly => R.inj x y gx gy ?_ ?_⟩
    · obtain ⟨o, h1, h2⟩ := R.blk x gx hx
      refine ⟨o, h1, ?_⟩
      rw [hget_hset]
      by_cases hbx : b = x
      · subst hbx; rw [if_pos rfl, ← hb]; exact h2
      · rw [if_neg hbx]; exact h2
    · unfold live at *; rw [hget_hset] at hlx
      by_cases hbx : b = x
      · subst hbx; rw [hb]; simp
      · rwa [if_neg hbx] at hlx
    · unfold live at *; rw [hget_hset] at hly
      by_cases hbx : b = y
      · subst hbx; rw [hb]; simp
      · rwa [if_neg hbx] at hly
  | cons V Cs ih =>
    intro q j w h R cs m z cl hb off hs hv
    simp only [List.length_cons] at hs
    have h0 := hv 0 (by simp)
    simp only [List.getElem_cons_zero, Nat.add_zero] at h0
    obtain ⟨W, hW, _, _, hfz⟩ := R.cell hg hb (off := off + j) (by omega)
    have R' := R.store hg hb (off := off + j) (by omega) h0.1 h0.2
    have hb' : hget (hset h b (.cells (tset cs (off + j) (tget vs q)) m z cl)) b = .cells (tset cs (off + j) (tget vs q)) m z cl := by rw [hget_hset, if_pos rfl]
    obtain ⟨w', hr, R''⟩ := ih (q + 1) (j + 1) R' hb' off (by omega) (fun i hi => by
      have := hv (i + 1) (by simp; omega)
      simpa [Nat.add_assoc, Nat.add_comm 1 i] using this)
    refine ⟨w', ?_, ?_⟩
    · have ha : (⟨g.c, g.d + off, none⟩ : Addr).add j = ⟨g.c, g.d + (off + j), none⟩ := by
        unfold Addr.add; split
        · rename_i h0; subst h0; rfl
        · simp [Nat.add_assoc]
      simp only [Go.storeCells, Sem.run_bind, ha, run_store P w _ V .plain h0.2, hW, hfz]
      simpa using hr
    · refine ⟨R''.os, R''.tape, R''.output, R''.size, R''.old, R''.rng, R''.fresh, fun x gx hx => ?_, fun x y gx gy hlx hly => R''.inj x y gx gy ?_ ?_⟩
      · obtain ⟨o, h1, h2⟩ := R''.blk x gx hx
        refine ⟨o, h1, ?_⟩
        have e1 : ∀ (hh : HH) (B : ABlk) (x : Nat), hget (Tr.set .dead hh b B) x = if b = x then B else hget hh x := fun hh B x => hget_hset hh b x B
        rw [e1] at h2 ⊢
        by_cases hbx : b = x
        · subst hbx
          rw [if_pos rfl] at h2 ⊢
          exact h2
        · rw [if_neg hbx] at h2 ⊢
          rw [hget_hset, if_neg hbx] at h2
          exact h2
      all_goals
        have e1 : ∀ (hh : HH) (B : ABlk) (x : Nat), hget (Tr.set .dead hh b B) x = if b = x then B else hget hh x := fun hh B x => hget_hset hh b x B
        unfold live at *
        rw [e1] at *
      · by_cases hbx : b = x
        · subst hbx; rw [if_pos rfl]; simp
        · rw [if_neg hbx] at hlx ⊢; rw [hget_hset, if_neg hbx]; exact hlx
      · by_cases hbx : b = y
        · subst hbx; rw [if_pos rfl]; simp
        · rw [if_neg hbx] at hly ⊢; rw [hget_hset, if_neg hbx]; exact hly
end
end Go.Ae
