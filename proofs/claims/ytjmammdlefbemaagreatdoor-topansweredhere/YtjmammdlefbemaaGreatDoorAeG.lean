/- The abstract evaluator: soundness of operations, the fourth part. -/
import Derived.Test.YtjmammdlefbemaaGreatDoorAeF
set_option linter.unusedVariables false
set_option linter.unusedSectionVars false
namespace Go.Ae

section
variable {P : Program} {C : Ctx} (H : CtxOK P C) {e : Nat} (he : e ≠ 0)

include H he in
theorem kStore_ok {o : Oper} {ty : Nat} {x y : Operand} (ho : o.op = .store ty x y) {k : K} (h : kStore C e ty x y = some k) : KOK P C o k := by
  simp only [kStore, Option.bind_eq_bind, Option.bind_eq_some_iff] at h
  obtain ⟨ga, hga, gx, hgx, s, hs, h⟩ := h
  cases h
  intro t h n k hk
  obtain ⟨b, off, hv, hk⟩ := asPtr_ok he hk
  obtain ⟨cs, m, z, cl, hb, hk⟩ := blkCells_ok he hk
  rcases asCells_ok he hk with ⟨vs, q, hx, hk⟩ | ⟨hk, h1⟩
  · obtain ⟨hq, hk⟩ := guardN_ok he hk
    obtain ⟨hle, hk⟩ := guardN_ok he hk
    have hq : q = s := Nat.eq_of_beq_eq_true hq
    have hle : off + q ≤ m := ble_le hle
    refine ⟨_, _, _, hk, Nat.le_refl _, fun base Γ w a hgl R ht => ?_⟩
    have hr := opG_ok hga ht
    rw [hv] at hr
    obtain ⟨g', hg', hV⟩ := hr.ptr_inv
    have hrx := opG_ok hgx ht
    rw [hx] at hrx
    obtain ⟨Cs, hX, hsz, hc, hc1⟩ := hrx.agg_inv
    obtain ⟨w', hrun, R'⟩ := Rel.storeCells (P := P) hg' vs Cs.toList 0 0 R hb off (by simp; omega) (fun i hi => by
      simp only [Array.length_toList] at hi
      simpa using ⟨hc i hi, hc1 i hi⟩)
    refine ⟨Γ, w', .skip, Go.undef, Gam.ext_refl _ _, ?_, ?_, .undef, .inr ⟨rfl, rfl⟩⟩
    · simp only [Array.length_toList, hsz, Nat.add_zero] at R'
      exact R'
    · simp [execOp, ho, Instr.storeAt, hV, hX, Instr.sureAddr, storeVar, Value.cells, H.size hs, hsz, hq, hrun]
  · obtain ⟨hq, hk⟩ := guardN_ok he hk
    obtain ⟨hle, hk⟩ := guardN_ok he hk
    have hq : s = 1 := Nat.eq_of_beq_eq_true hq
    have hle : off < m := blt_lt hle
    refine ⟨_, _, _, hk, Nat.le_refl _, fun base Γ w a hgl R ht => ?_⟩
    have hr := opG_ok hga ht
    rw [hv] at hr
    obtain ⟨g', hg', hV⟩ := hr.ptr_inv
    have hrx := opG_ok hgx ht
    have h1 := h1 _ _ hrx
    obtain ⟨W, hW, _, _, hfz⟩ := R.cell hg' hb hle
    refine ⟨Γ, _, .skip, Go.undef, Gam.ext_refl _ _, R.store hg' hb hle hrx h1, ?_, .undef, .inr ⟨rfl, rfl⟩⟩
    have ha : (⟨g'.c, g'.d + off, none⟩ : Addr).add 0 = ⟨g'.c, g'.d + off, none⟩ := rfl
    simp [execOp, ho, Instr.storeAt, hV, Instr.sureAddr, storeVar, cells_one h1, H.size hs, hq, storeCells, ha, run_store P w _ _ .plain h1, hW, hfz]

include H he in
theorem kLen_ok {o : Oper} {ts : Array TypeId} {x : Operand} {ty : Nat} (ho : o.op = .call { callee := .builtin .len, args := #[x], argTypes := ts }) (hts : ts[0]? = some ty) {k : K}
    (h : kLen C e ty x = some k) : KOK P C o k := by
  simp only [kLen, Option.bind_eq_bind, Option.bind_eq_some_iff] at h
  obtain ⟨g, hg, d, hd, h⟩ := h
  have hu := H.und hd
  have hexec : ∀ (a : Act) (w : World), (execOp a.eval o).run P w = ((Builtin.len_ ts o.type #[a.eval x]).run P w).andThen fun v w' => .ok (.value v) w' := by
    intro a w
    simp [execOp, ho, resolve, invoke, builtin]
  split at h
  · cases h
    intro t h k hk
    obtain ⟨bs, hv, hk⟩ := asStr_ok he hk
    rw [forceN_eq, lenN_eq] at hk
    refine ⟨_, hk, fun base Γ n w a hgl R ht => ?_⟩
    have hr := opG_ok hg ht
    rw [hv] at hr
    refine ⟨_, ?_, .int _ _⟩
    rw [hexec]
    simp [Builtin.len_, hts, run_underlying hu, hr.str_inv, goInt, bytesOf_size]
  · cases h
    intro t h k hk
    rcases asSlice_ok he hk with ⟨hv, hk⟩ | ⟨hv, hk⟩ | ⟨hv, hk⟩ | ⟨b, off, len, op, c, hv, hk⟩
    all_goals
      refine ⟨_, hk, fun base Γ n w a hgl R ht => ?_⟩
      have hr := opG_ok hg ht
      rw [hv] at hr
      refine ⟨_, ?_, .int _ _⟩
      rw [hexec]
    · simp [Builtin.len_, hts, run_underlying hu, hr.nils_inv, goInt]
    · obtain ⟨a', c, hV⟩ := hr.voidO_inv
      simp [Builtin.len_, hts, run_underlying hu, hV, goInt]
    · obtain ⟨a', hV⟩ := hr.voidE_inv
      simp [Builtin.len_, hts, run_underlying hu, hV, goInt]
    · obtain ⟨g', _, hV⟩ := hr.slice_inv
      simp [Builtin.len_, hts, run_underlying hu, hV, goInt]
  · cases h
    intro t h k hk
    obtain ⟨b, hv, hk⟩ := asMap_ok he hk
    obtain ⟨es, hb, hk⟩ := blkMap_ok he hk
    rw [forceN_eq, lenN_eq] at hk
    refine ⟨_, hk, fun base Γ n w a hgl R ht => ?_⟩
    have hr := opG_ok hg ht
    rw [hv] at hr
    obtain ⟨g', hg', hV⟩ := hr.map_inv
    obtain ⟨ob, hob, hor⟩ := R.blk b g' hg'
    rw [hb] at hor
    cases hor with
    | map _ ES clock hl hall _ =>
      refine ⟨_, ?_, .int _ _⟩
      rw [hexec]
      simp [Builtin.len_, hts, run_underlying hu, hV, getObj, Sem.run, hob, goInt, hl]
  · cases h
    intro t h k hk
    refine ⟨_, hk, fun base Γ n w a hgl R ht => ⟨_, ?_, .int _ _⟩⟩
    rw [hexec]
    simp [Builtin.len_, hts, run_underlying hu, goInt]
  · cases h

theorem opGs_ok : ∀ {xs : List Operand} {gs : List (TT → AV)}, opGs xs = some gs → ∀ {Γ : Gam} {t : TT} {a : Act}, RelT Γ t a.tmps → VRs Γ (gs.map fun g => g t) (xs.map a.eval)
  | [], gs, h, Γ, t, a, ht => by cases h; exact .nil
  | x :: xs, gs, h, Γ, t, a, ht => by
    unfold opGs at h
    split at h
    · rename_i g gs' hg hgs
      cases h
      exact .cons (opG_ok hg ht) (opGs_ok hgs ht)
    · cases h

include he in
theorem kMakeFunc_aux (t : TT) : ∀ (gs : List (TT → AV)) (j : List (Nat × Nat) → Nat),
    List.rec (motive := fun _ => (List (Nat × Nat) → Nat) → Nat) (fun j => j []) (fun g _ ih j => asPtr e (g t) fun b off => ih fun l => j ((b, off) :: l)) gs j = 0 →
    ∃ l, j l = 0 ∧ gs.map (fun g => g t) = l.map fun p => .ptr p.1 p.2
  | [], j, h => ⟨[], h, rfl⟩
  | g :: gs, j, h => by
    obtain ⟨b, off, hv, h⟩ := asPtr_ok he h
    obtain ⟨l, hl, hm⟩ := kMakeFunc_aux t gs _ h
    exact ⟨(b, off) :: l, hl, by simp [hv, hm]⟩

theorem VRs.get {Γ : Gam} {vs : List AV} {Vs : List Value} (h : VRs Γ vs Vs) : Vs.length = vs.length ∧ ∀ (i : Nat) (v : AV), vs[i]? = some v → ∃ V, Vs[i]? = some V ∧ VR Γ v V := by
  induction h with
  | nil => exact ⟨rfl, fun i v h => by simp at h⟩
  | cons h _ ih =>
    refine ⟨by simp [ih.1], fun i v hi => ?_⟩
    cases i with
    | zero => simp at hi; subst hi; exact ⟨_, rfl, h⟩
    | succ i => simpa using ih.2 i v (by simpa using hi)

include he in
theorem kMakeFunc_ok {o : Oper} {fn : Fn} {first captured : Array Operand} (ho : o.op = .makeFunc fn first captured) {k : K} (h : kMakeFunc e fn first.toList captured.toList = some k) : KOK P C o k := by
  unfold kMakeFunc at h
  split at h
  · rename_i f hf0
    have hfirst : first = #[] := by apply Array.ext'; simpa using hf0
    subst hfirst
    simp only [Option.bind_eq_bind, Option.bind_eq_some_iff] at h
    obtain ⟨gs, hgs, h⟩ := h
    cases h
    intro t h k hk
    obtain ⟨l, hk, hm⟩ := kMakeFunc_aux he t gs _ hk
    refine ⟨_, hk, fun base Γ n w a hgl R ht => ?_⟩
    have hvs := opGs_ok hgs ht
    rw [hm] at hvs
    obtain ⟨h1, h2⟩ := hvs.get
    refine ⟨.func (.func f) #[] (captured.map a.eval), by simp [execOp, ho, Instr.makeFunc], .fn f l _ (by simpa using h1) (fun i hi => ?_)⟩
    obtain ⟨V, hV, hvr⟩ := h2 i (.ptr (l[i].1) (l[i].2)) (by simp [hi])
    obtain ⟨g, hg, hV'⟩ := hvr.ptr_inv
    refine ⟨g, hg, ?_⟩
    rw [hV'] at hV
    simpa using hV
  · cases h

theorem kMakeMap_ok {o : Oper} {ty : Nat} (ho : o.op = .makeMap ty none) {k : K} (h : kMakeMap = some k) : KOK P C o k := by
  cases h
  intro t h k hk
  refine ⟨_, _, hk, fun base Γ n w a hgl R ht => ⟨.map (some w.heap.size), .map #[] 0, 0, w.drawn, ?_, fun id hid => ⟨.map id _ (Gam.put_self _ _ _), ?_⟩⟩⟩
  · simp [execOp, ho, Instr.makeMap]
  · exact .map _ _ _ rfl (fun i hi => absurd hi (by simp)) rfl

theorem flat_get (zl : List AV) : ∀ (m i : Nat), i < m * zl.length → ((List.replicate m zl).flatten)[i]? = zl[i % zl.length]?
  | 0, i, h => by simp at h
  | m + 1, i, h => by
    simp only [List.replicate_succ, List.flatten_cons]
    by_cases hi : i < zl.length
    · rw [List.getElem?_append_left hi, Nat.mod_eq_of_lt hi]
    · rw [List.getElem?_append_right (by omega), flat_get zl m (i - zl.length) (by rw [Nat.add_mul] at h; omega)]
      congr 1
      rw [← Nat.mod_eq_sub_mod (by omega)]

theorem flat_length (zl : List AV) (m : Nat) : ((List.replicate m zl).flatten).length = m * zl.length := by
  simp [List.length_flatten]

/-- m rows of an element's zero -/
theorem zero_rows {z : Value} {zl : List AV} (hz : toScs z.cells.toList = some zl) (hpos : 0 < zl.length) (Γ : Gam) (m : Nat) :
    AccOK Γ (fillT ((List.replicate m zl).flatten) 0 .nil) ((Array.range (m * zl.length)).map fun i => z.cells[i % z.cells.size]!) := by
  obtain ⟨h1, h2⟩ := toScs_ok hz
  have hsz : z.cells.size = zl.length := by simpa using h1.symm
  intro i hi
  simp only [Array.size_map, Array.size_range] at hi
  rw [tget_fillT, if_pos ⟨Nat.zero_le _, by rw [flat_length]; simpa using hi⟩]
  simp only [Nat.sub_zero, List.getD_eq_getElem?_getD, flat_get zl m i hi, Array.getElem_map, Array.getElem_range]
  have hlt : i % z.cells.size < z.cells.size := Nat.mod_lt _ (by omega)
  obtain ⟨x, hx, hs⟩ := h2 (i % z.cells.size) (z.cells[i % z.cells.size]) (by simp [hlt])
  rw [hsz] at hx
  rw [hx]
  have hbang : z.cells[i % z.cells.size]! = z.cells[i % z.cells.size] := by simp [hlt]
  rw [hbang]
  exact toSc_ok hs Γ

include H he in
theorem kBuildSlice_ok {o : Oper} {ty len : Nat} {parts : Array (Nat × Operand)} (ho : o.op = .buildSlice ty len parts) {k : K} (h : kBuildSlice C e ty len parts.toList = some k) : KOK P C o k := by
  simp only [kBuildSlice, Option.bind_eq_bind, Option.bind_eq_some_iff] at h
  obtain ⟨d, hd, h⟩ := h
  have hu := H.und hd
  split at h
  · rename_i elem
    simp only [Option.bind_eq_some_iff] at h
    obtain ⟨s, hs, i, hi, z, hz, zl, hzl, ps, hps, h⟩ := h
    split at h
    · rename_i hc
      simp only [Bool.and_eq_true, decide_eq_true_eq] at hc
      obtain ⟨⟨hl, hn⟩, hpos⟩ := hc
      cases h
      intro t h k hk
      obtain ⟨acc', hk, hb⟩ := buildL_ok he _ _ hps t _ _ _ hk
      refine ⟨_, _, hk, fun base Γ n w a hgl R ht => ?_⟩
      have hrows := zero_rows hzl (by omega) Γ len
      rw [hl] at hrows
      obtain ⟨cells', hf, hsz, hok⟩ := hb Γ a _ ht (by simp) hrows
      refine ⟨.slice (some ⟨w.heap.size, 0, none⟩) len len, .cells cells' elem (0, 0), 0, w.drawn, ?_, fun id hid => ⟨.sliceE id 0 len len _ (Gam.put_self _ _ _), ?_⟩⟩
      · have hzs : z.cells.size = s := by have := (toScs_ok hzl).1; simp at this; omega
        have c1 : ¬ len * s > 2 ^ 24 := by omega
        by_cases h0 : len * s = 0
        · have hlen : len = 0 := by
            rcases Nat.mul_eq_zero.1 h0 with h | h
            · exact h
            · omega
          subst hlen
          have hr0 : Array.range 0 = #[] := rfl
          simp only [Nat.zero_mul, hr0, Array.map_empty] at hf
          simp only [execOp, ho, Sem.run_bind, Instr.buildSlice, run_underlying hu, Result.andThen_ok, H.size hs, Nat.zero_mul, hr0]
          simp [hf, newRow]
        · simp only [execOp, ho, Sem.run_bind, Instr.buildSlice, run_underlying hu, Result.andThen_ok, H.size hs]
          simp [c1, h0, zeroValue, H.info hi, hz, newRow]
          have hf' := hf
          simp only [hzs] at hf' ⊢
          simp [hf']
      · exact or_cells elem hsz.symm (fun j hj => ⟨(hok j hj).1.mono (Gam.le_put hid), (hok j hj).2⟩)
    · cases h
  · cases h
end
end Go.Ae
