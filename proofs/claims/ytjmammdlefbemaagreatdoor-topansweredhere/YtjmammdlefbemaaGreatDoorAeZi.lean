/- Tries that hold a list. -/
import Derived.Test.YtjmammdlefbemaaGreatDoorAeZh
namespace Go.Ae

def evens {α : Type} : List α → List α
  | [] => []
  | [x] => [x]
  | x :: _ :: r => x :: evens r
def odds {α : Type} : List α → List α
  | [] => []
  | [_] => []
  | _ :: y :: r => y :: odds r

theorem evens_get {α : Type} : ∀ (l : List α) (k : Nat), (evens l)[k]? = l[2 * k]?
  | [], k => by simp [evens]
  | [x], 0 => by simp [evens]
  | [x], k + 1 => by simp [evens, show 2 * (k + 1) = (2 * k + 1) + 1 from by omega]
  | x :: y :: r, 0 => by simp [evens]
  | x :: y :: r, k + 1 => by
    have := evens_get r k
    simp [evens, show 2 * (k + 1) = (2 * k + 1) + 1 from by omega, this]
theorem odds_get {α : Type} : ∀ (l : List α) (k : Nat), (odds l)[k]? = l[2 * k + 1]?
  | [], k => by simp [odds]
  | [x], k => by simp [odds]
  | x :: y :: r, 0 => by simp [odds]
  | x :: y :: r, k + 1 => by
    have := odds_get r k
    simp [odds, show 2 * (k + 1) + 1 = (2 * k + 1 + 1) + 1 from by omega, this]
theorem evens_len {α : Type} : ∀ (l : List α), (evens l).length ≤ l.length
  | [] => by simp [evens]
  | [x] => by simp [evens]
  | x :: y :: r => by have := evens_len r; simp [evens]; omega
theorem odds_len {α : Type} : ∀ (l : List α), (odds l).length ≤ l.length
  | [] => by simp [odds]
  | [x] => by simp [odds]
  | x :: y :: r => by have := odds_len r; simp [odds]; omega

def trieOf {α : Type} : Nat → List α → Tr (Option α)
  | 0, _ => .nil
  | _ + 1, [] => .nil
  | f + 1, x :: xs => .node (trieOf f (evens xs)) (some x) (trieOf f (odds xs))

theorem getC_trieOf {α : Type} : ∀ (f : Nat) (l : List α) (n i : Nat), l.length ≤ f → i ≤ n → Tr.getC none (pathN n i) (trieOf f l) = l[i]?
  | 0, l, n, i, hl, _ => by
    have : l = [] := List.length_eq_zero_iff.1 (by omega)
    subst this
    simp [trieOf, Tr.getC_nil]
  | f + 1, [], n, i, _, _ => by simp [trieOf, Tr.getC_nil]
  | f + 1, x :: xs, n, 0, _, _ => by cases n <;> rfl
  | f + 1, x :: xs, 0, i + 1, _, hn => by omega
  | f + 1, x :: xs, n + 1, j + 1, hl, hn => by
    have hl : xs.length ≤ f := by simpa using hl
    have he := evens_len xs
    have ho := odds_len xs
    rw [pathN_succ]
    have : j % 2 = 0 ∨ j % 2 = 1 := by omega
    rcases this with h | h
    · rw [if_pos h]
      show Tr.getC none (pathN n (j / 2)) (trieOf f (evens xs)) = _
      rw [getC_trieOf f (evens xs) n (j / 2) (by omega) (by omega), evens_get]
      simp [show 2 * (j / 2) = j from by omega]
    · rw [if_neg (by omega)]
      show Tr.getC none (pathN n (j / 2)) (trieOf f (odds xs)) = _
      rw [getC_trieOf f (odds xs) n (j / 2) (by omega) (by omega), odds_get]
      simp [show 2 * (j / 2) + 1 = j from by omega]

theorem get_trieOf {α : Type} {f : Nat} {l : List α} {T : Tr (Option α)} (hT : T = trieOf f l) (hl : l.length ≤ f) (i : Nat) : Tr.get none T i = l[i]? := by
  subst hT
  exact getC_trieOf f l i i hl (Nat.le_refl _)

/-- A context out of a program's tables. -/
theorem ctxOK_of {P : Program} {C : Ctx} {TI : Tr (Option TypeInfo)} {FN : Tr (Option Func)} {ft ff : Nat} (hti : C.ti = fun i => Tr.get none TI i) (hfn : C.fn = fun i => Tr.get none FN i)
    (hT : TI = trieOf ft P.types.toList) (hF : FN = trieOf ff P.funcs.toList) (ht : Nat.ble P.types.toList.length ft = true) (hf : Nat.ble P.funcs.toList.length ff = true)
    (hn : (P.funcs.toList.all fun x => !(x.name == "runtime.NumGoroutine")) = true) (hm : P.follows .mixedOrders = true)
    (he : ∀ t, C.eqs t = true → P.stoodInHeld t = false ∧ P.eqGuardType P.depth t = false) : CtxOK P C where
  ti t i h := by
    rw [hti] at h
    have h : Tr.get none TI t = some i := h
    rw [get_trieOf hT (Nat.le_of_ble_eq_true ht)] at h
    have h : P.types[t]? = some i := by simpa using h
    have hlt : t < P.types.size := (Array.getElem?_eq_some_iff.1 h).1
    unfold Tables.info?
    rw [if_pos hlt]
    exact h
  fn f x h := by
    rw [hfn] at h
    have h : Tr.get none FN f = some x := h
    rw [get_trieOf hF (Nat.le_of_ble_eq_true hf)] at h
    refine ⟨by simpa using h, ?_⟩
    have := List.all_eq_true.1 hn x (List.mem_of_getElem? h)
    simpa using this
  mixed := hm
  eqs := he
end Go.Ae
