/- The pure values of Go that the machine of this claim reckons with, and what it is that a value of the model, in memory that no longer turns, reads as one of them. -/
import Derived.Laws.AppendOwn
import Derived.WalkKit
namespace Go.Proofs.Kh
set_option linter.all false
set_option linter.unusedVariables false
set_option linter.unusedSimpArgs false
open Go

/-- A value of Go without places: what is behind a slice, or behind a pointer that nobody writes through, stands in it. -/
inductive PD where
  | int (k : IntKind) (n : Int)
  | bool (b : Bool)
  | str (s : List UInt8)
  | sl (xs : List PD)
  | agg (cs : List PD)
  | ref (cs : List PD) (off : Nat)
  | nilp
  | fn (f : FuncId)
  | nilfn
  | ifc (t : TypeId) (x : PD)
  | nilif
  deriving Inhabited

def PD.cells : PD → List PD
  | .agg cs => cs
  | x => [x]

def PD.single : PD → Bool
  | .agg _ => false
  | _ => true

/-- What memory holds that no longer turns. -/
abbrev Mem := Nat → Nat → Option Value

def flat (xs : List PD) : List PD := xs.flatMap PD.cells

inductive RelP (M : Mem) : Value → PD → Prop
  | int (k : IntKind) (n : Int) : RelP M (.int k n) (.int k n)
  | bool (b : Bool) : RelP M (.bool b) (.bool b)
  | str (s : List UInt8) : RelP M (.string ⟨s.toArray⟩) (.str s)
  | slnil : RelP M (.slice none 0 0) (.sl [])
  | sl (b o cap sz : Nat) (xs : List PD) (vf : Nat → Value) (hc : xs.length ≤ cap) (hm : cap ≤ maxLen)
      (hw : ∀ x, x ∈ xs → x.cells.length = sz) (hs : ∀ c, c ∈ flat xs → c.single = true)
      (hM : ∀ k, k < (flat xs).length → M b (o + k) = some (vf k))
      (hr : ∀ (k : Nat) (c : PD), (flat xs)[k]? = some c → RelP M (vf k) c) : RelP M (.slice (some ⟨b, o, none⟩) xs.length cap) (.sl xs)
  | agg (vs : Array Value) (cs : List PD) (hl : vs.size = cs.length) (hs : ∀ c, c ∈ cs → c.single = true)
      (hr : ∀ (k : Nat) (v : Value) (c : PD), vs[k]? = some v → cs[k]? = some c → RelP M v c) : RelP M (.agg vs) (.agg cs)
  | ref (b o off : Nat) (cs : List PD) (vf : Nat → Value) (hs : ∀ c, c ∈ cs → c.single = true)
      (hM : ∀ k, k < cs.length → M b (o + k) = some (vf k))
      (hr : ∀ (k : Nat) (c : PD), cs[k]? = some c → RelP M (vf k) c) : RelP M (.pointer (some ⟨b, o + off, none⟩)) (.ref cs off)
  | nilp : RelP M (.pointer none) .nilp
  | fn (f : FuncId) : RelP M (.func (.func f) #[] #[]) (.fn f)
  | nilfn : RelP M .nilFunc .nilfn
  | ifc (t : TypeId) (v : Value) (x : PD) (h : RelP M v x) : RelP M (.iface t v) (.ifc t x)
  | nilif : RelP M .nilIface .nilif

def Mem.le (M M' : Mem) : Prop := ∀ b o v, M b o = some v → M' b o = some v

theorem Mem.le_refl (M : Mem) : Mem.le M M := fun _ _ _ h => h
theorem Mem.le_trans {A B C : Mem} (h : Mem.le A B) (h' : Mem.le B C) : Mem.le A C := fun b o v e => h' b o v (h b o v e)

theorem RelP.mono {M M' : Mem} (hl : Mem.le M M') {v : Value} {x : PD} (h : RelP M v x) : RelP M' v x := by
  induction h with
  | int k n => exact .int k n
  | bool b => exact .bool b
  | str s => exact .str s
  | slnil => exact .slnil
  | sl b o cap sz xs vf hc hm hw hs hM hr ih => exact .sl b o cap sz xs vf hc hm hw hs (fun k hk => hl _ _ _ (hM k hk)) ih
  | agg vs cs hl' hs hr ih => exact .agg vs cs hl' hs ih
  | ref b o off cs vf hs hM hr ih => exact .ref b o off cs vf hs (fun k hk => hl _ _ _ (hM k hk)) ih
  | nilp => exact .nilp
  | fn f => exact .fn f
  | nilfn => exact .nilfn
  | ifc t v x h ih => exact .ifc t v x ih
  | nilif => exact .nilif

/-! ### What a value is, from what it reads as -/
section
variable {M : Mem} {v : Value}
theorem RelP.int_inv {k : IntKind} {n : Int} (h : RelP M v (.int k n)) : v = .int k n := by cases h; rfl
theorem RelP.bool_inv {b : Bool} (h : RelP M v (.bool b)) : v = .bool b := by cases h; rfl
theorem RelP.str_inv {s : List UInt8} (h : RelP M v (.str s)) : v = .string ⟨s.toArray⟩ := by cases h; rfl
theorem RelP.nilp_inv (h : RelP M v .nilp) : v = .pointer none := by cases h; rfl
theorem RelP.nilfn_inv (h : RelP M v .nilfn) : v = .nilFunc := by cases h; rfl
theorem RelP.nilif_inv (h : RelP M v .nilif) : v = .nilIface := by cases h; rfl
theorem RelP.fn_inv {f : FuncId} (h : RelP M v (.fn f)) : v = .func (.func f) #[] #[] := by cases h; rfl
theorem RelP.ifc_inv {t : TypeId} {x : PD} (h : RelP M v (.ifc t x)) : ∃ u, v = .iface t u ∧ RelP M u x := by cases h with | ifc _ u _ h => exact ⟨u, rfl, h⟩
theorem RelP.agg_inv {cs : List PD} (h : RelP M v (.agg cs)) : ∃ vs : Array Value, v = .agg vs ∧ vs.size = cs.length ∧ (∀ c, c ∈ cs → c.single = true) ∧ ∀ (k : Nat) (v : Value) (c : PD), vs[k]? = some v → cs[k]? = some c → RelP M v c := by
  cases h with | agg vs _ hl hs hr => exact ⟨vs, rfl, hl, hs, hr⟩

/-- One cell's value: no struct, no tuple. -/
def oneCell : Value → Bool
  | .agg _ => false
  | .tuple _ => false
  | _ => true

theorem RelP.oneCell {x : PD} (h : RelP M v x) (hx : x.single = true) : oneCell v = true := by
  cases h <;> simp_all [Kh.oneCell, PD.single]

theorem oneCell_cells {v : Value} (h : Kh.oneCell v = true) : v.cells = #[v] := by
  cases v <;> simp_all [Kh.oneCell, Value.cells]

/-- The cells of a value, one by one. -/
theorem RelP.cells_rel {x : PD} (h : RelP M v x) (hx : ∀ c, c ∈ x.cells → c.single = true) :
    v.cells.size = x.cells.length ∧ ∀ (k : Nat) (u : Value) (c : PD), v.cells[k]? = some u → x.cells[k]? = some c → RelP M u c := by
  cases x with
  | agg cs =>
    obtain ⟨vs, rfl, hl, hs, hr⟩ := h.agg_inv
    exact ⟨hl, hr⟩
  | _ =>
    have h1 := oneCell_cells (h.oneCell rfl)
    refine ⟨by rw [h1]; rfl, fun k u c hu hc => ?_⟩
    rw [h1] at hu
    simp only [PD.cells] at hc
    cases k with
    | zero => simp at hu hc; subst hu; subst hc; exact h
    | succ k => simp at hu
end
end Go.Proofs.Kh
