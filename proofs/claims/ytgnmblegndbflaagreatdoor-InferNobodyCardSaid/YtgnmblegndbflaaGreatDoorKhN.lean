/- The machine's operations do what the model's do: numbers, truths, texts, structs, places. -/
import Derived.Test.YtgnmblegndbflaaGreatDoorKhM2
import Derived.StringKeys
namespace Go.Proofs.Kh
set_option linter.all false
set_option linter.unusedVariables false
set_option linter.unusedSimpArgs false
open Go
section
variable {P : Program} {tm : Nat} {G : Gh} {st : St} {w : World} {x : AV}

theorem tl (s : List UInt8) : (⟨s.toArray⟩ : ByteArray).toList = s := by rw [ByteArray.toList_eq]

theorem binS_run {op : BinOp} {a b : List UInt8} {r : PD} {t : TypeId} (h : binS op a b = some r) : ∃ v, (Go.binOp op t (.string ⟨a.toArray⟩) (.string ⟨b.toArray⟩)).run P w = .ok v w ∧ RelV G st v (.pd r) := by
  cases op <;> simp only [binS] at h <;> first | (cases h; done) | skip
  case add =>
    split at h
    · rename_i hle
      injection h with h; subst h
      refine ⟨.string ⟨(a ++ b).toArray⟩, ?_, .ofStr _⟩
      have e : (⟨a.toArray⟩ : ByteArray) ++ ⟨b.toArray⟩ = ⟨(a ++ b).toArray⟩ := by
        apply ByteArray.ext
        rw [ByteArray.data_append]
        simp
      have hmax : IntKind.max .i64 = 9223372036854775807 := by decide
      have hsz : ¬ ((((⟨a.toArray⟩ : ByteArray).size + (⟨b.toArray⟩ : ByteArray).size : Nat) : Int) > IntKind.i64.max) := by
        rw [hmax]; simp only [ByteArray.size, List.size_toArray]; omega
      simp only [Go.binOp, Op.stringOp, if_neg hsz, Sem.run_pure, e]
    · cases h
  all_goals
    injection h with h; subst h
    refine ⟨_, ?_, .ofBool _⟩
    simp only [Go.binOp, Op.stringOp, tl, Sem.run_pure]

theorem bin_run {op : BinOp} {t : TypeId} {u v : Value} {y : AV} {ox oy : Operand} {r : PD} (hu : RelV G st u x) (hv : RelV G st v y)
    (h : (∃ k k' a b, x = .pd (.int k a) ∧ y = .pd (.int k' b) ∧ ((op = .shl ∧ 0 ≤ b ∧ r = .int k (k.wrap (a * 2 ^ min b.toNat k.bits))) ∨ (op = .shr ∧ 0 ≤ b ∧ r = .int k (a.fdiv (2 ^ min b.toNat k.bits))) ∨ (op ≠ .shl ∧ op ≠ .shr ∧ k = k' ∧ binI op k a b = some r))) ∨
      (∃ a b, x = .pd (.str a) ∧ y = .pd (.str b) ∧ binS op a b = some r)) :
    ∃ z, (do eqGuard op t ox oy u v; Go.binOp op t u v : Sem Value).run P w = .ok z w ∧ RelV G st z (.pd r) := by
  rcases h with ⟨k, k', a, b, rfl, rfl, h⟩ | ⟨a, b, rfl, rfl, h⟩
  · have e1 := hu.int_inv; have e2 := hv.int_inv
    subst e1; subst e2
    have hg : (eqGuard op t ox oy (.int k a) (.int k' b)).run P w = .ok () w := eqGuard_one (fun _ h => by cases h) (fun h => by cases h)
    simp only [Sem.run_bind, hg, Result.andThen_ok]
    rcases h with ⟨rfl, h0, rfl⟩ | ⟨rfl, h0, rfl⟩ | ⟨_, _, rfl, h⟩
    · exact ⟨.int k (k.wrap (a * 2 ^ min b.toNat k.bits)), by simp [Go.binOp, Op.shift, Int.not_lt.2 h0], .ofInt _ _⟩
    · exact ⟨.int k (a.fdiv (2 ^ min b.toNat k.bits)), by simp [Go.binOp, Op.shift, Int.not_lt.2 h0], .ofInt _ _⟩
    · exact binI_run h
  · have e1 := hu.str_inv; have e2 := hv.str_inv
    subst e1; subst e2
    have hg : (eqGuard op t ox oy (.string ⟨a.toArray⟩) (.string ⟨b.toArray⟩)).run P w = .ok () w := eqGuard_one (fun _ h => by cases h) (fun h => by cases h)
    simp only [Sem.run_bind, hg, Result.andThen_ok]
    exact binS_run h

theorem in_bool (d : Nat) {t : TypeId} (a b : Bool) (h : P.underlying t = some .bool) : (Op.equalIn (d + 1) t (.bool a) (.bool b)).run P w = .ok (a == b) w := by
  simp only [Op.equalIn, Sem.run_bind, run_underlying h, Result.andThen_ok, Sem.run_pure]

theorem equal_bool {t : TypeId} (a b : Bool) (h : P.underlying t = some .bool) : (Op.equal t (.bool a) (.bool b)).run P w = .ok (a == b) w := in_bool 9999 a b h

theorem in_ptr (d : Nat) {t e : TypeId} {a b : Option Addr} (h : P.underlying t = some (.pointer e)) (hn : a = none ∨ b = none) : (Op.equalIn (d + 1) t (.pointer a) (.pointer b)).run P w = .ok (a.isNone && b.isNone) w := by
  rcases hn with rfl | rfl
  · simp [Op.equalIn, run_underlying h]
  · cases a <;> simp [Op.equalIn, run_underlying h]

theorem equal_ptr {t e : TypeId} {a b : Option Addr} (h : P.underlying t = some (.pointer e)) (hn : a = none ∨ b = none) : (Op.equal t (.pointer a) (.pointer b)).run P w = .ok (a.isNone && b.isNone) w := in_ptr 9999 h hn

theorem in_nilfn (d : Nat) {t : TypeId} {ps rs : Array TypeId} {vr : Bool} (h : P.underlying t = some (.func ps rs vr)) : (Op.equalIn (d + 1) t .nilFunc .nilFunc).run P w = .ok true w := by
  simp [Op.equalIn, run_underlying h]

theorem equal_nilfn {t : TypeId} {ps rs : Array TypeId} {vr : Bool} (h : P.underlying t = some (.func ps rs vr)) : (Op.equal t .nilFunc .nilFunc).run P w = .ok true w := in_nilfn 9999 h

theorem in_fn1 (d : Nat) {t : TypeId} {ps rs : Array TypeId} {vr : Bool} {f : Fn} {a b : Array Value} (h : P.underlying t = some (.func ps rs vr)) : (Op.equalIn (d + 1) t .nilFunc (.func f a b)).run P w = .ok false w := by
  simp [Op.equalIn, run_underlying h]

theorem equal_fn1 {t : TypeId} {ps rs : Array TypeId} {vr : Bool} {f : Fn} {a b : Array Value} (h : P.underlying t = some (.func ps rs vr)) : (Op.equal t .nilFunc (.func f a b)).run P w = .ok false w := in_fn1 9999 h

theorem in_fn2 (d : Nat) {t : TypeId} {ps rs : Array TypeId} {vr : Bool} {f : Fn} {a b : Array Value} (h : P.underlying t = some (.func ps rs vr)) : (Op.equalIn (d + 1) t (.func f a b) .nilFunc).run P w = .ok false w := by
  simp [Op.equalIn, run_underlying h]

theorem equal_fn2 {t : TypeId} {ps rs : Array TypeId} {vr : Bool} {f : Fn} {a b : Array Value} (h : P.underlying t = some (.func ps rs vr)) : (Op.equal t (.func f a b) .nilFunc).run P w = .ok false w := in_fn2 9999 h

theorem in_if1 (d : Nat) {t u : TypeId} {ms : Array (String × TypeId)} {v : Value} (h : P.underlying t = some (.interface ms)) : (Op.equalIn (d + 1) t .nilIface (.iface u v)).run P w = .ok false w := by
  simp [Op.equalIn, run_underlying h]

theorem equal_if1 {t u : TypeId} {ms : Array (String × TypeId)} {v : Value} (h : P.underlying t = some (.interface ms)) : (Op.equal t .nilIface (.iface u v)).run P w = .ok false w := in_if1 9999 h

theorem in_if0 (d : Nat) {t : TypeId} {ms : Array (String × TypeId)} (h : P.underlying t = some (.interface ms)) : (Op.equalIn (d + 1) t .nilIface .nilIface).run P w = .ok true w := by
  simp [Op.equalIn, run_underlying h]

theorem equal_if0 {t : TypeId} {ms : Array (String × TypeId)} (h : P.underlying t = some (.interface ms)) : (Op.equal t .nilIface .nilIface).run P w = .ok true w := in_if0 9999 h

theorem in_if2 (d : Nat) {t u : TypeId} {ms : Array (String × TypeId)} {v : Value} (h : P.underlying t = some (.interface ms)) : (Op.equalIn (d + 1) t (.iface u v) .nilIface).run P w = .ok false w := by
  simp [Op.equalIn, run_underlying h]

theorem equal_if2 {t u : TypeId} {ms : Array (String × TypeId)} {v : Value} (h : P.underlying t = some (.interface ms)) : (Op.equal t (.iface u v) .nilIface).run P w = .ok false w := in_if2 9999 h

theorem eqKind_agg {t : TypeId} {ks : List Leaf} (h : eqKind P t = some (.agg ks)) : leaves P 8 t = some ks ∧ P.eqGuardType P.depth t = false := by
  unfold eqKind at h
  split at h <;> first | (simp at h; done) | skip
  all_goals
    split at h
    · split at h
      · injection h with h; injection h with h; subst h
        exact ⟨by assumption, by assumption⟩
      · cases h
    · cases h

theorem eq_agg_run {ks : List Leaf} {ng : Bool} {t : TypeId} {u v : Value} {y : AV} {ox oy : Operand} {b : Bool} (hk : eqKind P t = some (.agg ks)) (hu : RelV G st u x) (hv : RelV G st v y) (h : eqPD (.agg ks) x y = some b) :
    (do eqGuard (if ng then .neq else .eql) t ox oy u v; Go.binOp (if ng then .neq else .eql) t u v : Sem Value).run P w = .ok (.bool (if ng then !b else b)) w := by
  obtain ⟨k1, k2⟩ := eqKind_agg hk
  unfold eqPD at h
  split at h <;> first | (cases h; done) | skip
  all_goals first
    | (rename_i hkk; cases hkk; done)
    | skip
  rename_i ks' as bs hkk
  injection hkk with hkk; subst hkk
  obtain ⟨xs, rfl, l1, s1, r1⟩ := hu.pd_inv.agg_inv
  obtain ⟨ys, rfl, l2, s2, r2⟩ := hv.pd_inv.agg_inv
  have hl := eqLK_length _ _ _ _ h
  obtain ⟨g, hg, hg1⟩ := leaves_size k1
  have hgt : aggOf P t = some true := by
    cases g with
    | true => exact hg
    | false =>
      unfold eqKind at hk
      unfold aggOf at hg
      split at hk <;> first | (simp at hk; done) | skip
      all_goals (rename_i hu; rw [hu] at hg; simp at hg)
  have he : (Op.equal t (.agg xs) (.agg ys)).run P w = .ok b w := by
    refine leaves_eq 9992 8 t ks k1 G.M w _ _ as bs b (.inl ⟨hgt, _, rfl⟩) (.inl ⟨hgt, _, rfl⟩) ⟨l1, fun k u c hu hc => ?_⟩ ⟨l2, fun k u c hu hc => ?_⟩ h
    · exact ⟨r1 k u c hu hc, (r1 k u c hu hc).oneCell (s1 c (List.mem_of_getElem? hc))⟩
    · exact ⟨r2 k u c hu hc, (r2 k u c hu hc).oneCell (s2 c (List.mem_of_getElem? hc))⟩
  have hgd : (eqGuard (if ng then .neq else .eql) t ox oy (.agg xs) (.agg ys)).run P w = .ok () w := run_eqGuard_agg w _ t ox oy xs ys k2
  simp only [Sem.run_bind, hgd, Result.andThen_ok]
  cases ng
  · simp only [Bool.false_eq_true, if_false]
    show (do pure (.bool (← Op.equal t (.agg xs) (.agg ys))) : Sem Value).run P w = _
    simp [he]
  · simp only [if_true]
    show (do pure (.bool (!(← Op.equal t (.agg xs) (.agg ys)))) : Sem Value).run P w = _
    simp [he]

theorem eq_run {k : EqK} {ng : Bool} {t : TypeId} {u v : Value} {y : AV} {ox oy : Operand} {b : Bool} (hk : eqKind P t = some k) (hu : RelV G st u x) (hv : RelV G st v y) (h : eqPD k x y = some b) :
    (do eqGuard (if ng then .neq else .eql) t ox oy u v; Go.binOp (if ng then .neq else .eql) t u v : Sem Value).run P w = .ok (.bool (if ng then !b else b)) w := by
  by_cases hagg : ∃ ks, k = .agg ks
  · obtain ⟨ks, rfl⟩ := hagg
    exact eq_agg_run hk hu hv h
  have fin : ∀ c : Bool, (eqGuard (if ng then .neq else .eql) t ox oy u v).run P w = .ok () w → (Op.equal t u v).run P w = .ok c w → (∀ k a, u ≠ .int k a) → (∀ s, u ≠ .string s) → (∀ k a, u ≠ .float k a) → (∀ k a b, u ≠ .complex k a b) → c = b →
      (do eqGuard (if ng then .neq else .eql) t ox oy u v; Go.binOp (if ng then .neq else .eql) t u v : Sem Value).run P w = .ok (.bool (if ng then !b else b)) w := by
    intro c h1 h2 n1 n2 n3 n4 hc
    subst hc
    simp only [Sem.run_bind, h1, Result.andThen_ok]
    have hb : ∀ op : BinOp, op = .eql ∨ op = .neq → Go.binOp op t u v = (if op = .neq then (do pure (.bool (!(← Op.equal t u v)))) else (do pure (.bool (← Op.equal t u v)))) := by
      intro op hop
      rcases hop with rfl | rfl
      · cases u <;> first | rfl | (exact absurd rfl (n1 _ _)) | (exact absurd rfl (n2 _)) | (exact absurd rfl (n3 _ _)) | (exact absurd rfl (n4 _ _ _))
      · cases u <;> first | rfl | (exact absurd rfl (n1 _ _)) | (exact absurd rfl (n2 _)) | (exact absurd rfl (n3 _ _)) | (exact absurd rfl (n4 _ _ _))
    cases ng
    · simp only [Bool.false_eq_true, if_false]
      rw [hb .eql (.inl rfl)]
      simp [h2]
    · simp only [if_true]
      rw [hb .neq (.inr rfl)]
      simp [h2]
  unfold eqKind at hk
  split at hk <;> first | (cases hk; done) | skip
  rotate_left 4
  · split at hk
    · split at hk
      · injection hk with hk; exact (hagg ⟨_, hk.symm⟩).elim
      · cases hk
    · cases hk
  · split at hk
    · split at hk
      · injection hk with hk; exact (hagg ⟨_, hk.symm⟩).elim
      · cases hk
    · cases hk
  all_goals (rename_i hd; injection hk with hk; subst hk)
  · -- truths
    cases x with
    | pd p =>
      cases y with
      | pd q =>
        simp only [eqPD] at h
        cases p <;> cases q <;> simp only [eq1] at h <;> first | (cases h; done) | skip
        · rename_i ka a kb b'
          -- numbers are no truths
          split at h
          · have e1 := hu.int_inv; have e2 := hv.int_inv
            subst e1; subst e2
            rename_i hkk; subst hkk
            injection h with h; subst h
            have hg : (eqGuard (if ng then .neq else .eql) t ox oy (.int ka a) (.int ka b')).run P w = .ok () w := eqGuard_one (fun _ h => by cases h) (fun h => by cases h)
            simp only [Sem.run_bind, hg, Result.andThen_ok]
            cases ng <;> simp [Go.binOp, Op.intCmp, bne]
          · cases h
        · have e1 := hu.bool_inv; have e2 := hv.bool_inv
          subst e1; subst e2
          injection h with h; subst h
          exact fin _ (eqGuard_one (fun _ h => by cases h) (fun h => by cases h)) (equal_bool _ _ hd) (fun _ _ h => by cases h) (fun _ h => by cases h) (fun _ _ h => by cases h) (fun _ _ _ h => by cases h) rfl
        · have e1 := hu.str_inv; have e2 := hv.str_inv
          subst e1; subst e2
          injection h with h; subst h
          rename_i a b'
          have hg : (eqGuard (if ng then .neq else .eql) t ox oy (.string ⟨a.toArray⟩) (.string ⟨b'.toArray⟩)).run P w = .ok () w := eqGuard_one (fun _ h => by cases h) (fun h => by cases h)
          simp only [Sem.run_bind, hg, Result.andThen_ok]
          cases ng <;> simp [Go.binOp, Op.stringOp, tl]
      | _ => cases p <;> simp [eqPD] at h
    | _ => simp [eqPD] at h
  · -- places
    have h1 : ∀ u v, (eqGuard (if ng then .neq else .eql) t ox oy (.pointer u) v).run P w = .ok () w := fun _ _ => eqGuard_one (fun _ h => by cases h) (fun h => by cases h)
    have key : ∀ a c : Option Addr, u = .pointer a → v = .pointer c → a = none ∨ c = none → (a.isNone && c.isNone) = b → 
        (do eqGuard (if ng then .neq else .eql) t ox oy u v; Go.binOp (if ng then .neq else .eql) t u v : Sem Value).run P w = .ok (.bool (if ng then !b else b)) w := by
      intro a c e1 e2 hn hb
      subst e1; subst e2
      exact fin _ (h1 _ _) (equal_ptr hd hn) (fun _ _ h => by cases h) (fun _ h => by cases h) (fun _ _ h => by cases h) (fun _ _ _ h => by cases h) hb
    unfold eqPD at h
    split at h <;> first | (cases h; done) | skip
    all_goals first
      | (rename_i hkk; cases hkk; done)
      | skip
    · have e1 := hu.pd_inv.nilp_inv; have e2 := hv.pd_inv.nilp_inv
      injection h with h
      exact key none none e1 e2 (.inl rfl) h
    · have e1 := hu.pd_inv.nilp_inv
      injection h with h
      cases hv
      exact key none _ e1 rfl (.inl rfl) h
    · have e2 := hv.pd_inv.nilp_inv
      injection h with h
      cases hu
      exact key _ none rfl e2 (.inr rfl) h
    · have e1 := hu.pd_inv.nilp_inv
      injection h with h
      cases hv.pd_inv
      exact key none _ e1 rfl (.inl rfl) h
    · have e2 := hv.pd_inv.nilp_inv
      injection h with h
      cases hu.pd_inv
      exact key _ none rfl e2 (.inr rfl) h
  · -- functions
    have ng1 : ∀ v, (eqGuard (if ng then .neq else .eql) t ox oy .nilFunc v).run P w = .ok () w := fun _ => eqGuard_one (fun _ h => by cases h) (fun h => by cases h)
    have ng2 : ∀ f a c v, (eqGuard (if ng then .neq else .eql) t ox oy (.func f a c) v).run P w = .ok () w := fun _ _ _ _ => eqGuard_one (fun _ h => by cases h) (fun h => by cases h)
    unfold eqPD at h
    split at h <;> first | (cases h; done) | skip
    all_goals first
      | (rename_i hkk; cases hkk; done)
      | skip
    · have e1 := hu.pd_inv.nilfn_inv; have e2 := hv.pd_inv.nilfn_inv
      injection h with h; subst e1; subst e2
      exact fin _ (ng1 _) (equal_nilfn hd) (fun _ _ h => by cases h) (fun _ h => by cases h) (fun _ _ h => by cases h) (fun _ _ _ h => by cases h) h
    · have e1 := hu.pd_inv.nilfn_inv; have e2 := hv.pd_inv.fn_inv
      injection h with h; subst e1; subst e2
      exact fin _ (ng1 _) (equal_fn1 hd) (fun _ _ h => by cases h) (fun _ h => by cases h) (fun _ _ h => by cases h) (fun _ _ _ h => by cases h) h
    · have e1 := hu.pd_inv.fn_inv; have e2 := hv.pd_inv.nilfn_inv
      injection h with h; subst e1; subst e2
      exact fin _ (ng2 _ _ _ _) (equal_fn2 hd) (fun _ _ h => by cases h) (fun _ h => by cases h) (fun _ _ h => by cases h) (fun _ _ _ h => by cases h) h
    · have e1 := hu.pd_inv.nilfn_inv
      injection h with h; subst e1
      cases hv
      exact fin _ (ng1 _) (equal_fn1 hd) (fun _ _ h => by cases h) (fun _ h => by cases h) (fun _ _ h => by cases h) (fun _ _ _ h => by cases h) h
    · have e2 := hv.pd_inv.nilfn_inv
      injection h with h; subst e2
      cases hu
      exact fin _ (ng2 _ _ _ _) (equal_fn2 hd) (fun _ _ h => by cases h) (fun _ h => by cases h) (fun _ _ h => by cases h) (fun _ _ _ h => by cases h) h
  · -- interface values
    unfold eqPD at h
    split at h <;> first | (cases h; done) | skip
    all_goals first
      | (rename_i hkk; cases hkk; done)
      | skip
    · have e1 := hu.pd_inv.nilif_inv
      obtain ⟨z, e2, _⟩ := hv.pd_inv.ifc_inv
      injection h with h; subst e1; subst e2
      exact fin _ (eqGuard_one (fun _ h => by cases h) (fun _ h => by cases h)) (equal_if1 hd) (fun _ _ h => by cases h) (fun _ h => by cases h) (fun _ _ h => by cases h) (fun _ _ _ h => by cases h) h
    · have e2 := hv.pd_inv.nilif_inv
      obtain ⟨z, e1, _⟩ := hu.pd_inv.ifc_inv
      injection h with h; subst e1; subst e2
      exact fin _ (eqGuard_one (fun _ h => by cases h) (fun h => by cases h)) (equal_if2 hd) (fun _ _ h => by cases h) (fun _ h => by cases h) (fun _ _ h => by cases h) (fun _ _ _ h => by cases h) h

theorem isC_inv {o : Operand} (h : isC o = true) : ∃ v, o = .const v := by
  unfold isC at h
  split at h
  · exact ⟨_, rfl⟩
  · cases h

theorem eqKind_ifc {t : TypeId} (hk : eqKind P t = some .ifc) : ∃ ms, P.underlying t = some (.interface ms) := by
  unfold eqKind at hk
  repeat' split at hk
  all_goals first
    | (cases hk; done)
    | (rename_i h; exact ⟨_, h⟩)

theorem eq_runL {k : EqK} {ng : Bool} {t : TypeId} {u v : Value} {y : AV} {ox oy : Operand} {b : Bool} (hk : eqKind P t = some k) (hu : RelV G st u x) (hv : RelV G st v y) (h : eqPD (litK ox oy k) x y = some b) :
    (do eqGuard (if ng then .neq else .eql) t ox oy u v; Go.binOp (if ng then .neq else .eql) t u v : Sem Value).run P w = .ok (.bool (if ng then !b else b)) w := by
  by_cases hi : k = .ifc
  · subst hi
    by_cases hc : (isC ox || isC oy) = true
    · have h0 : litK ox oy .ifc = .ifc0 := by simp only [litK, hc, if_true]
      rw [h0] at h
      unfold eqPD at h
      split at h <;> first | (cases h; done) | skip
      all_goals first
        | (rename_i hkk; cases hkk; done)
        | skip
      · have e1 := hu.pd_inv.nilif_inv
        have e2 := hv.pd_inv.nilif_inv
        subst e1; subst e2
        injection h with h; subst h
        obtain ⟨ms, hd⟩ := eqKind_ifc hk
        have hg : (eqGuard (if ng then .neq else .eql) t ox oy .nilIface .nilIface).run P w = .ok () w := by
          unfold eqGuard
          simp only [Bool.or_eq_true] at hc
          rcases hc with hc | hc
          · obtain ⟨z, rfl⟩ := isC_inv hc
            cases ng <;> simp
          · obtain ⟨z, rfl⟩ := isC_inv hc
            cases ng <;> simp
        simp only [Sem.run_bind, hg, Result.andThen_ok]
        cases ng
        · show (do pure (.bool (← Op.equal t .nilIface .nilIface)) : Sem Value).run P w = _
          simp [equal_if0 hd]
        · show (do pure (.bool (!(← Op.equal t .nilIface .nilIface))) : Sem Value).run P w = _
          simp [equal_if0 hd]
      · exact eq_run hk hu hv (by simpa [eqPD] using h)
      · exact eq_run hk hu hv (by simpa [eqPD] using h)
    · have h0 : litK ox oy .ifc = .ifc := by simp only [litK, hc]; rfl
      rw [h0] at h
      exact eq_run hk hu hv h
  · have : litK ox oy k = k := by cases k <;> first | rfl | exact absurd rfl hi
    rw [this] at h
    exact eq_run hk hu hv h
end
end Go.Proofs.Kh
