/- The machine's operations do what the model's do: those that lay nothing but values. -/
import Derived.Test.YtgnmblegndbflaaGreatDoorKhL
namespace Go.Proofs.Kh
set_option linter.all false
set_option linter.unusedVariables false
set_option linter.unusedSimpArgs false
open Go
section
variable {P : Program} {tm : Nat} {G : Gh} {st : St} {w : World} {x : AV}

theorem ba_eq (s : ByteArray) : (⟨s.data.toList.toArray⟩ : ByteArray) = s := by cases s; simp

theorem pdV_rel {v : Value} {p : PD} (M : Mem) (h : pdV v = some p) : RelP M v p ∧ p.single = true := by
  unfold pdV at h
  split at h <;> first | (injection h with h; subst h) | (cases h)
  · exact ⟨.int _ _, rfl⟩
  · exact ⟨.bool _, rfl⟩
  · rename_i s
    have := RelP.str (M := M) s.data.toList
    rw [ba_eq] at this
    exact ⟨this, rfl⟩
  · exact ⟨.nilp, rfl⟩
  · exact ⟨.slnil, rfl⟩
  · exact ⟨.nilfn, rfl⟩
  · exact ⟨.nilif, rfl⟩

theorem pdVs_rel (M : Mem) : ∀ (vs : List Value) (ps : List PD), pdVs vs = some ps → ps.length = vs.length ∧ (∀ p, p ∈ ps → p.single = true) ∧ ∀ (k : Nat) (v : Value) (p : PD), vs[k]? = some v → ps[k]? = some p → RelP M v p
  | [], ps, h => by simp only [pdVs, Option.some.injEq] at h; subst h; simp
  | v :: r, ps, h => by
    simp only [pdVs] at h
    split at h
    · rename_i x xs hx hxs
      injection h with h; subst h
      obtain ⟨e1, e2, e3⟩ := pdVs_rel M r xs hxs
      obtain ⟨a1, a2⟩ := pdV_rel M hx
      refine ⟨by simp [e1], fun p hp => ?_, fun k u p hu hp => ?_⟩
      · cases hp with
        | head => exact a2
        | tail _ hp => exact e2 p hp
      · cases k with
        | zero => simp at hu hp; subst hu; subst hp; exact a1
        | succ k => simp at hu hp; exact e3 k u p hu hp
    · cases h

theorem cst_rel (G : Gh) (st : St) {v : Value} {y : AV} (h : cst v = some y) : RelV G st v y := by
  unfold cst at h
  split at h
  · injection h with h; subst h; exact .nil
  · split at h
    · rename_i cs ps hps
      injection h with h; subst h
      obtain ⟨e1, e2, e3⟩ := pdVs_rel G.M _ _ hps
      exact .pd _ _ (.agg _ _ (by simpa using e1.symm) e2 fun k u c hu hc => e3 k u c (by simpa using hu) hc)
    · cases h
  · split at h
    · rename_i p hp
      injection h with h; subst h
      exact .pd _ _ (pdV_rel G.M hp).1
    · cases h

def EnvRel (G : Gh) (st : St) (a : Act) (ly : Ly) : Prop := ∀ s x, Ly.get ly s = some x → ∃ v, a.tmps[s]? = some v ∧ RelV G st v x

theorem ev_rel {a : Act} {ly : Ly} (he : EnvRel G st a ly) {o : Operand} {p : Opd} {y : AV} (ho : opd o = some p) (hy : p.ev ly = some y) : RelV G st (a.eval o) y := by
  cases o with
  | tmp t =>
    simp only [opd, Option.some.injEq] at ho; subst ho
    obtain ⟨v, h1, h2⟩ := he t y hy
    simp only [Act.eval, Array.getD_eq_getD_getElem?, h1, Option.getD_some]
    exact h2
  | const v =>
    simp only [opd] at ho
    split at ho
    · rename_i z hz
      injection ho with ho; subst ho
      simp only [Opd.ev, Option.some.injEq] at hy; subst hy
      exact cst_rel G st hz
    · cases ho
  | func f =>
    simp only [opd, Option.some.injEq] at ho; subst ho
    simp only [Opd.ev, Option.some.injEq] at hy; subst hy
    exact .pd _ _ (.fn f)
  | global g => simp [opd] at ho

theorem evL_rel {a : Act} {ly : Ly} (he : EnvRel G st a ly) : ∀ (os : List Operand) (ps : List Opd) (ys : List AV), opds os = some ps → evL ly ps = some ys →
    ys.length = os.length ∧ ∀ (k : Nat) (v : Value) (y : AV), (os.map a.eval)[k]? = some v → ys[k]? = some y → RelV G st v y
  | [], ps, ys, h, h' => by
    simp only [opds, Option.some.injEq] at h; subst h
    simp only [evL, Option.some.injEq] at h'; subst h'
    simp
  | o :: r, ps, ys, h, h' => by
    simp only [opds] at h
    split at h
    · rename_i p ps' hp hps
      injection h with h; subst h
      simp only [evL] at h'
      split at h'
      · rename_i y ys' hy hys
        injection h' with h'; subst h'
        obtain ⟨e1, e2⟩ := evL_rel he r ps' ys' hps hys
        refine ⟨by simp [e1], fun k v z hv hz => ?_⟩
        cases k with
        | zero => simp at hv hz; subst hv; subst hz; exact ev_rel he hp hy
        | succ k => simp at hv hz; exact e2 k v z (by simpa using hv) hz
      · cases h'
    · cases h

theorem RelV.int_inv {v : Value} {k : IntKind} {n : Int} (h : RelV G st v (.pd (.int k n))) : v = .int k n := h.pd_inv.int_inv
theorem RelV.bool_inv {v : Value} {b : Bool} (h : RelV G st v (.pd (.bool b))) : v = .bool b := h.pd_inv.bool_inv
theorem RelV.str_inv {v : Value} {s : List UInt8} (h : RelV G st v (.pd (.str s))) : v = .string ⟨s.toArray⟩ := h.pd_inv.str_inv
theorem RelV.ofInt (k : IntKind) (n : Int) : RelV G st (.int k n) (.pd (.int k n)) := .pd _ _ (.int k n)
theorem RelV.ofBool (b : Bool) : RelV G st (.bool b) (.pd (.bool b)) := .pd _ _ (.bool b)
theorem RelV.ofStr (s : List UInt8) : RelV G st (.string ⟨s.toArray⟩) (.pd (.str s)) := .pd _ _ (.str s)

/-! ### Numbers, truths, texts -/
theorem binI_run {op : BinOp} {k : IntKind} {a b : Int} {r : PD} {t : TypeId} (h : binI op k a b = some r) : ∃ v, (Go.binOp op t (.int k a) (.int k b)).run P w = .ok v w ∧ RelV G st v (.pd r) := by
  cases op <;> simp only [binI] at h <;> first | (cases h; done) | skip
  all_goals first
    | (injection h with h; subst h; refine ⟨_, by simp [Go.binOp, Op.intArith, Op.intBits, Op.intCmp]; rfl, ?_⟩; exact .pd _ _ (.int _ _))
    | (injection h with h; subst h; refine ⟨_, by simp [Go.binOp, Op.intArith, Op.intBits, Op.intCmp]; rfl, ?_⟩; exact .pd _ _ (.bool _))
    | (split at h
       · cases h
       · rename_i hb
         injection h with h; subst h
         refine ⟨_, by simp [Go.binOp, Op.intDiv, hb]; rfl, ?_⟩
         exact .pd _ _ (.int _ _))
    | (injection h with h; subst h
       refine ⟨.int k (k.wrap (BitVec.toNat _)), ?_, .pd _ _ (.int _ _)⟩
       simp [Go.binOp, Op.intBits])

theorem eqGuard_one {op : BinOp} {t : TypeId} {x y : Operand} {u v : Value} (hu : ∀ cs, u ≠ .agg cs) (hi : u = .nilIface → v ≠ .nilIface) : (eqGuard op t x y u v).run P w = .ok () w := by
  unfold eqGuard
  cases op <;> first
    | rfl
    | (cases u with
       | agg cs => exact absurd rfl (hu cs)
       | nilIface =>
         cases v with
         | nilIface => exact absurd rfl (hi rfl)
         | _ => rfl
       | _ => rfl)
end
end Go.Proofs.Kh
