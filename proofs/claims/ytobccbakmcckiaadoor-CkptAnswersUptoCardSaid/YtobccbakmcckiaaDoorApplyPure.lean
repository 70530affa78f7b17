/- What writes do to a store's list; no program. -/
import Derived.Test.YtobccbakmcckiaaDoorStorePure
namespace Go.Proofs.YtobccbakmcckiaaDoor
open Go Go.RowKit

/-- An api.Write. -/
structure SWr where
  key : Key
  gone : Bool
  val : SVal
def isZero (v : SVal) : Bool := v.kind == 0 && (v.num == 0 && v.text.isEmpty)
theorem isZero_iff {v : SVal} : isZero v = true ↔ v = SVal.zero := by
  obtain ⟨a, b, c⟩ := v
  unfold isZero SVal.zero
  simp
/-- Does a write stand behind one with this key? -/
def behind : Option Key → Key → Bool
  | none, _ => true
  | some p, k => Op.bytesLess p k
def may1 (L : SL) (prev : Option Key) (x : SWr) : Int :=
  if validKey x.key then (if behind prev x.key then (if claimed L x.key then (if validVal x.val then (if x.gone && !isZero x.val then 2 else 0) else 20) else 41) else 40) else 30
def mayFrom (L : SL) : Option Key → List SWr → Int
  | _, [] => 0
  | prev, x :: r => if may1 L prev x = 0 then mayFrom L (some x.key) r else may1 L prev x
def setL (L : SL) (x : SWr) : SL := putM L x.key x.val
def applyL (L : SL) (ws : List SWr) : SL := ws.foldl setL L
def applyE (L : SL) (ws : List SWr) : Int := mayFrom L none ws
def applyTo (L : SL) (ws : List SWr) : SL := if applyE L ws = 0 then applyL L ws else L

def prevKey (ws : List SWr) (k : Nat) : Option Key := if k = 0 then none else (ws[k - 1]?).map (·.key)
theorem prevKey_succ (ws : List SWr) (k : Nat) (h : k < ws.length) : prevKey ws (k + 1) = some ws[k].key := by simp [prevKey, h]
theorem mayFrom_drop (L : SL) (prev : Option Key) (ws : List SWr) (k : Nat) (h : k < ws.length) : mayFrom L prev (ws.drop k) = if may1 L prev ws[k] = 0 then mayFrom L (some ws[k].key) (ws.drop (k + 1)) else may1 L prev ws[k] := by
  rw [List.drop_eq_getElem_cons h]; rfl

/-- What holds of writes that may be applied. -/
theorem may_all {L : SL} {prev : Option Key} {ws : List SWr} (h : mayFrom L prev ws = 0) : ∀ x ∈ ws, validKey x.key = true ∧ claimed L x.key = true ∧ validVal x.val = true := by
  induction ws generalizing prev with
  | nil => intro x hx; cases hx
  | cons y r ih =>
    unfold mayFrom at h
    have h0 : may1 L prev y = 0 := by
      by_cases h0 : may1 L prev y = 0
      · exact h0
      · rw [if_neg h0] at h; exact absurd h h0
    rw [if_pos h0] at h
    intro x hx
    rcases List.mem_cons.1 hx with rfl | hx
    · unfold may1 at h0
      cases h1 : validKey x.key <;> cases h2 : behind prev x.key <;> cases h3 : claimed L x.key <;> cases h4 : validVal x.val <;> simp_all
    · exact ih h x hx

theorem look_setL {L : SL} (h : RisM L) (x : SWr) (k : Key) : lookM (setL L x) k = if k = x.key then some x.val else lookM L k := lookM_putM h _ _ _
theorem ris_setL {L : SL} (h : RisM L) (x : SWr) : RisM (setL L x) := risM_putM h _ _
theorem claimed_setL {L : SL} (h : RisM L) {x : SWr} (hc : claimed L x.key = true) (k : Key) : claimed (setL L x) k = claimed L k := by
  unfold claimed
  rw [look_setL h]
  split
  · rename_i e; subst e; unfold claimed at hc; rw [hc]; rfl
  · rfl
theorem get_setL {L : SL} (h : RisM L) (x : SWr) (k : Key) : getV (setL L x) k = if k = x.key then x.val else getV L k := by
  unfold getV
  rw [look_setL h]
  split <;> rfl
theorem ris_applyL {L : SL} (h : RisM L) (ws : List SWr) : RisM (applyL L ws) := by
  unfold applyL
  induction ws generalizing L with
  | nil => exact h
  | cons k r ih => exact ih (ris_setL h k)
theorem claimed_applyL {L : SL} (h : RisM L) {ws : List SWr} (hc : ∀ x ∈ ws, claimed L x.key = true) (k : Key) : claimed (applyL L ws) k = claimed L k := by
  unfold applyL
  induction ws generalizing L with
  | nil => rfl
  | cons x r ih =>
    have h1 := hc x (by simp)
    rw [List.foldl_cons, ih (ris_setL h x) (fun y hy => by rw [claimed_setL h h1]; exact hc y (by simp [hy])), claimed_setL h h1]
theorem applyL_succ (L : SL) (ws : List SWr) (k : Nat) (hk : k < ws.length) : applyL L (ws.take (k + 1)) = setL (applyL L (ws.take k)) ws[k] := by
  unfold applyL
  rw [List.take_succ_eq_append_getElem hk, List.foldl_append]; rfl
end Go.Proofs.YtobccbakmcckiaaDoor
