/- An operation looks at no more than its operands. -/
import Derived.Test.YtgnmblegndbflaaGreatDoorKhY
namespace Go.Proofs.Kh
set_option linter.all false
set_option linter.unusedVariables false
set_option linter.unusedSimpArgs false
open Go

def AOp.opds : AOp → List Opd
  | .mov x => [x]
  | .adopt _ _ => []
  | .pick c a b => [c, a, b]
  | .alloc _ _ => []
  | .box _ x => [x]
  | .build _ parts => parts.map (·.2.2)
  | .bsl _ xs => xs
  | .bslm _ xs => xs
  | .load _ _ a => [a]
  | .store _ a x => [a, x]
  | .nilck x => [x]
  | .bin _ x y => [x, y]
  | .eq _ _ x y => [x, y]
  | .neg x => [x]
  | .not x => [x]
  | .conv _ x => [x]
  | .mkif _ x => [x]
  | .mkfn _ fs cs => fs ++ cs
  | .mksl _ _ _ l => [l]
  | .sls x lo hi => x :: (lo.toList ++ hi.toList)
  | .sll _ x lo hi mx => x :: (lo.toList ++ hi.toList ++ mx.toList)
  | .fld _ _ _ x => [x]
  | .faddr _ x => [x]
  | .iaddr _ x i => [x, i]
  | .aaddr _ _ x i => [x, i]
  | .idxs x i => [x, i]
  | .idxa _ _ _ x i => [x, i]
  | .range x => [x]
  | .next x => [x]
  | .tass _ _ _ x => [x]
  | .ext x _ => [x]
  | .lens x => [x]
  | .len x => [x]
  | .app _ _ _ x y => [x, y]
  | .minmax _ xs => xs
  | .call _ xs => xs
  | .callr _ xs => xs
  | .callv f xs => f :: xs
  | .panic x => [x]
  | .xib x y => [x, y]

theorem evL_congr {ly ly' : Ly} : ∀ (xs : List Opd), (∀ o, o ∈ xs → o.ev ly = o.ev ly') → evL ly xs = evL ly' xs
  | [], _ => rfl
  | o :: r, h => by simp only [evL]; rw [h o (by simp), evL_congr r fun o ho => h o (by simp [ho])]

theorem evP_congr {ly ly' : Ly} : ∀ (xs : List (Nat × Nat × Opd)), (∀ o, o ∈ xs.map (·.2.2) → o.ev ly = o.ev ly') → evP ly xs = evP ly' xs
  | [], _ => rfl
  | (a, b, o) :: r, h => by simp only [evP]; rw [h o (by simp), evP_congr r fun o ho => h o (by simp only [List.map_cons, List.mem_cons]; exact .inr ho)]

theorem evO_congr {ly ly' : Ly} {d : Nat} : ∀ (o : Option Opd), (∀ x, x ∈ o.toList → x.ev ly = x.ev ly') → evO ly d o = evO ly' d o
  | none, _ => rfl
  | some o, h => by simp only [evO]; rw [h o (by simp)]

theorem AOp.run_congr {call : CallF} {ly ly' : Ly} {st : St} (o : AOp) (ht : Ly.top ly = Ly.top ly') (h : ∀ x, x ∈ o.opds → x.ev ly = x.ev ly') : o.run call ly st = o.run call ly' st := by
  cases o <;> simp only [AOp.opds] at h <;> simp only [AOp.run]
  case pick c a b => rw [h c (by simp), h a (by simp), h b (by simp)]
  case build zs ps => rw [evP_congr ps h]
  case bsl n xs => rw [evL_congr xs h]
  case bslm n xs => rw [evL_congr xs h]
  case store n a x => rw [h a (by simp), h x (by simp), ht]
  case bin op x y => rw [h x (by simp), h y (by simp)]
  case eq k n x y => rw [h x (by simp), h y (by simp)]
  case mkfn f fs cs => rw [evL_congr fs fun o ho => h o (by simp [ho]), evL_congr cs fun o ho => h o (by simp [ho])]
  case sls x lo hi => rw [h x (by simp)]; simp only [evO_congr (ly := ly) (ly' := ly') lo fun o ho => h o (by simp [Option.mem_toList.1 ho]), evO_congr (ly := ly) (ly' := ly') hi fun o ho => h o (by simp [Option.mem_toList.1 ho])]
  case sll n x lo hi mx => rw [h x (by simp)]; simp only [evO_congr (ly := ly) (ly' := ly') lo fun o ho => h o (by simp [Option.mem_toList.1 ho]), evO_congr (ly := ly) (ly' := ly') hi fun o ho => h o (by simp [Option.mem_toList.1 ho]), evO_congr (ly := ly) (ly' := ly') mx fun o ho => h o (by simp [Option.mem_toList.1 ho])]
  case iaddr n x i => rw [h x (by simp), h i (by simp)]
  case aaddr n l x i => rw [h x (by simp), h i (by simp)]
  case idxs x i => rw [h x (by simp), h i (by simp)]
  case idxa g n l x i => rw [h x (by simp), h i (by simp)]
  case app s b m x y => rw [h x (by simp), h y (by simp)]
  case minmax m xs => rw [evL_congr xs h]
  case call f xs => rw [evL_congr xs h]
  case callr f xs => rw [evL_congr xs h]
  case callv f xs => rw [h f (by simp), evL_congr xs fun o ho => h o (by simp [ho])]
  case xib x y => rw [h x (by simp), h y (by simp)]
  all_goals first | rfl | (rename_i x; rw [h x (by simp)]) | (rename_i x _; rw [h x (by simp)])

def Opd.slot : Opd → Option Nat
  | .t s => some s
  | .c _ => none

/-- The slots that it looks at. -/
def AO.slots (o : AO) : List Nat := o.op.opds.filterMap Opd.slot ++ match o.gd with
  | some (s, _) => [s]
  | none => []

def EnvOn (S : List Nat) (G : Gh) (st : St) (a : Act) (ly : Ly) : Prop := ∀ s x, s ∈ S → Ly.get ly s = some x → ∃ v, a.tmps[s]? = some v ∧ RelV G st v x

def cut (ly : Ly) (S : List Nat) : Ly := [(Ly.top ly, S.filterMap fun s => (Ly.get ly s).map fun x => (s, x))]

theorem env_cut (f : Nat → Option AV) : ∀ (S : List Nat) (s : Nat), Env.get (S.filterMap fun s => (f s).map fun x => (s, x)) s = if s ∈ S then f s else none
  | [], s => rfl
  | k :: S, s => by
    have ih := env_cut f S s
    simp only [List.filterMap_cons]
    cases hk : f k with
    | none =>
      simp only [Option.map_none, ih, List.mem_cons]
      by_cases hs : s = k
      · subst hs; simp [hk]
      · simp [hs]
    | some x =>
      simp only [Option.map_some, Env.get, ih, List.mem_cons]
      by_cases hs : k = s
      · subst hs; simp [hk]
      · have : ¬ s = k := fun e => hs e.symm
        simp [hs, this]

theorem cut_get (ly : Ly) (S : List Nat) (s : Nat) : Ly.get (cut ly S) s = if s ∈ S then Ly.get ly s else none := by
  unfold cut
  simp only [Ly.get]
  rw [env_cut]
  by_cases hs : s ∈ S
  · simp only [if_pos hs]; cases Ly.get ly s <;> rfl
  · simp only [if_neg hs]

theorem cut_rel {S : List Nat} {G : Gh} {st : St} {a : Act} {ly : Ly} (h : EnvOn S G st a ly) : EnvRel G st a (cut ly S) := by
  intro s x hx
  rw [cut_get] at hx
  split at hx
  · rename_i hs; exact h s x hs hx
  · cases hx

theorem run_cut {call : CallF} {ly : Ly} {st : St} (o : AO) : o.op.run call (cut ly o.slots) st = o.op.run call ly st := by
  refine AOp.run_congr o.op rfl fun x hx => ?_
  cases x with
  | c y => rfl
  | t s =>
    simp only [Opd.ev, cut_get]
    rw [if_pos]
    simp only [AO.slots, List.mem_append, List.mem_filterMap]
    exact .inl ⟨.t s, hx, rfl⟩

theorem wants_cut {ly : Ly} (o : AO) : wants (cut ly o.slots) o.gd = wants ly o.gd := by
  cases hg : o.gd with
  | none => rfl
  | some g =>
    obtain ⟨s, b⟩ := g
    simp only [wants, cut_get]
    rw [if_pos (by simp [AO.slots, hg])]

structure Hints where
  ad : List (Nat × List (Nat × Nat × Bool))
  br : List Nat
  od : List (Nat × List (Nat × Bool))

def adOf : List (Nat × List (Nat × Nat × Bool)) → Option Nat → List (Nat × Nat × Bool)
  | (k, l) :: r, some d => if k = d then l else adOf r (some d)
  | _, _ => []

def isRef (br : List Nat) (o : Oper) : Bool := match o.op with
  | .call c => match c.callee with
    | .value (.func f) => br.contains f
    | _ => false
  | _ => false

def guardOf (ops : Array Oper) : Option (Nat × Bool) → Option (Option (Nat × Bool))
  | none => some none
  | some (j, want) => match ops[j]? with
    | some oj => match oj.dst with
      | some s => some (some (s, want))
      | none => none
    | none => none

def dstOK (N : Nat) : Option Nat → Bool
  | none => true
  | some d => decide (d < N)

def normAO (P : Program) (h : Hints) (N : Nat) (ops : Array Oper) (o : Oper) : Option AO :=
  match normOp P (adOf h.ad o.dst) (isRef h.br o) o, guardOf ops o.guard with
  | some op, some gd => if dstOK N o.dst then some ⟨o.dst, op, gd⟩ else none
  | _, _ => none

section
variable {P : Program} {h : Hints} {N : Nat} {ops : Array Oper} {o : Oper} {ao : AO} {G : Gh} {st : St} {w : World} {a : Act} {ly : Ly} {call : CallF}

theorem normAO_inv (hn : normAO P h N ops o = some ao) : normOp P (adOf h.ad o.dst) (isRef h.br o) o = some ao.op ∧ guardOf ops o.guard = some ao.gd ∧ ao.dst = o.dst ∧ ∀ d, o.dst = some d → d < N := by
  unfold normAO at hn
  split at hn
  · rename_i op gd h1 h2
    split at hn
    · rename_i h3
      injection hn with hn; subst hn
      refine ⟨h1, h2, rfl, fun d hd => ?_⟩
      rw [hd] at h3
      simpa [dstOK] using h3
    · cases hn
  · cases hn

theorem wanted_rel {b : Bool} (hn : normAO P h N ops o = some ao) (he : EnvOn ao.slots G st a ly) (hw : wants ly ao.gd = some b) : Region.wanted o (yielded ops a.tmps) = b := by
  obtain ⟨_, h2, _, _⟩ := normAO_inv hn
  unfold Region.wanted
  cases hg : o.guard with
  | none =>
    rw [hg] at h2
    simp only [guardOf, Option.some.injEq] at h2
    rw [← h2] at hw
    simpa [wants] using hw
  | some g =>
    obtain ⟨j, want⟩ := g
    rw [hg] at h2
    simp only [guardOf] at h2
    split at h2
    · rename_i oj hj
      split at h2
      · rename_i s hs
        injection h2 with h2
        have hmem : s ∈ ao.slots := by simp [AO.slots, ← h2]
        rw [← h2] at hw
        simp only [wants] at hw
        simp only [yielded, hj, Option.bind_some, hs]
        split at hw
        · rename_i c hc
          injection hw with hw
          obtain ⟨v, h3, h4⟩ := he s _ hmem hc
          have h5 := h4.pd_inv
          cases h5
          simp only [h3]
          rw [← hw]
          cases c <;> cases want <;> rfl
        · rename_i hc
          injection hw with hw
          obtain ⟨v, h3, h4⟩ := he s _ hmem hc
          cases h4 with
          | tup vs _ hl hr => simp [h3, ← hw]
        · cases hw
      · cases h2
    · cases h2

theorem op_on (hcall : CallOK P call) (hplain : CallPlain P call) {r : ARes} {st' : St} {next : Act → World → Prop} {Q : Exit → Act → World → Prop} (hn : normAO P h N ops o = some ao) (he : EnvOn ao.slots G st a ly) (inv : Inv G st w) (htm : Ly.top ly ≤ st.length)
    (hrun : ao.op.run call ly st = some (r, st')) (hp : Post (Ly.top ly) G st w r st' o a next Q) : o.wp P a w next Q := by
  obtain ⟨h1, _, _, _⟩ := normAO_inv hn
  exact op_sound (ly := cut ly ao.slots) hcall hplain (cut_rel he) inv htm h1 (by rw [run_cut]; exact hrun) hp
end
end Go.Proofs.Kh
