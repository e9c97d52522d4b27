/- Regions whose order is drawn: what is looked at once. -/
import Derived.Test.YtgnmblegndbflaaGreatDoorKhZ
namespace Go.Proofs.Kh
set_option linter.all false
set_option linter.unusedVariables false
set_option linter.unusedSimpArgs false
open Go

/-- Operations that don't look at what there is. -/
def AOp.still : AOp → Bool
  | .mov _ | .pick _ _ _ | .nilck _ | .bin _ _ _ | .eq _ _ _ _ | .neg _ | .not _ | .mkfn _ _ _ | .sls _ _ _ | .fld _ _ _ _ | .aaddr _ _ _ _ | .idxs _ _ | .idxa _ _ _ _ _ | .tass _ _ _ _ | .ext _ _ | .lens _ | .minmax _ _ | .build _ _ | .xib _ _ => true
  | _ => false

theorem still_run {call : CallF} {ly : Ly} {st : St} {o : AOp} {x : AV} (hs : o.still = true) (h : o.run call ly st = some (.ret x, st)) (st2 : St) : o.run call ly st2 = some (.ret x, st2) := by
  cases o <;> simp only [AOp.still] at hs <;> first | cases hs | skip
  all_goals
    simp only [AOp.run, val] at h ⊢
    repeat' split at h
    all_goals first
      | (cases h; done)
      | (simp only [Option.some.injEq, Prod.mk.injEq, ARes.ret.injEq, and_true] at h; simp_all)

def maskOf : List Nat → Nat
  | [] => 0
  | s :: r => (1 <<< s) ||| maskOf r

theorem testBit_maskOf (k : Nat) : ∀ l : List Nat, Nat.testBit (maskOf l) k = true ↔ k ∈ l
  | [] => by simp [maskOf]
  | s :: r => by
    simp only [maskOf, Nat.testBit_or, Bool.or_eq_true, testBit_maskOf k r, List.mem_cons, Nat.shiftLeft_eq, Nat.one_mul, Nat.testBit_two_pow]
    simp [eq_comm]

theorem and_zero {a b k : Nat} (h : a &&& b = 0) (ha : Nat.testBit a k = true) : Nat.testBit b k = false := by
  have h1 : Nat.testBit (a &&& b) k = false := by rw [h]; simp
  rw [Nat.testBit_and, ha] at h1
  simpa using h1

/-- An operation in the order in which they are carried out here: its number; which come before it; what it looks at; what it turns. -/
structure DI where
  i : Nat
  anc : Nat
  rd : Nat
  wr : Nat
  chg : Bool
  ao : AO
  chk : List AO

def DI.todo (d : DI) : DO := ⟨d.i, d.chg, d.ao, d.chk⟩

def lookA : List DI → Nat → Option Nat
  | [], _ => none
  | d :: r, i => if d.i = i then some d.anc else lookA r i

def ancOf (acc : List DI) : List Edge → Option Nat
  | [] => some 0
  | e :: r => if Region.binds .any e then (match lookA acc e.on, ancOf acc r with
    | some m, some k => some ((1 <<< e.on) ||| (m ||| k))
    | _, _ => none) else ancOf acc r

def pairOK (anc rd wr : Nat) (d : DI) : Bool := Nat.testBit anc d.i || ((d.wr &&& (rd ||| wr)) == 0 && (wr &&& d.rd) == 0 && !d.chg)

/-- What is to be looked at again behind it. -/
def chks (anc : Nat) : List DI → Nat → Option (List AO)
  | [], _ => some []
  | d :: r, acc => match chks anc r (acc ||| d.wr) with
    | none => none
    | some l => if Nat.testBit anc d.i || d.ao.op.still then some l else if (acc &&& (d.rd ||| d.wr)) = 0 ∧ (d.wr &&& d.rd) = 0 then some (d.ao :: l) else none

def normDrawI (P : Program) (h : Hints) (N : Nat) (ops : Array Oper) : List DI → List (Nat × Bool) → Option (List DI)
  | acc, [] => if (List.range ops.size).all fun k => acc.any fun d => d.i == k then some [] else none
  | acc, (i, chg) :: r => match ops[i]? with
    | none => none
    | some o => match normAO P h N ops o, ancOf acc o.after.toList with
      | some ao, some anc =>
        if acc.all fun d => d.i != i && pairOK anc (maskOf ao.slots) (maskOf ao.dst.toList) d then
          match (if chg then chks anc acc (maskOf ao.dst.toList) else some []) with
          | some l => match normDrawI P h N ops (⟨i, anc, maskOf ao.slots, maskOf ao.dst.toList, chg, ao, l⟩ :: acc) r with
            | some ds => some (⟨i, anc, maskOf ao.slots, maskOf ao.dst.toList, chg, ao, l⟩ :: ds)
            | none => none
          | none => none
        else none
      | _, _ => none

/-- What is known of one operation, behind those before it (the last first). -/
structure Chkd (P : Program) (h : Hints) (N : Nat) (ops : Array Oper) (acc : List DI) (d : DI) (o : Oper) : Prop where
  op : ops[d.i]? = some o
  norm : normAO P h N ops o = some d.ao
  anc : ancOf acc o.after.toList = some d.anc
  rd : d.rd = maskOf d.ao.slots
  wr : d.wr = maskOf d.ao.dst.toList
  pair : ∀ d', d' ∈ acc → d'.i ≠ d.i ∧ pairOK d.anc d.rd d.wr d' = true
  chk : d.chg = true → chks d.anc acc d.wr = some d.chk

def Good (P : Program) (h : Hints) (N : Nat) (ops : Array Oper) : List DI → List DI → Prop
  | acc, [] => ∀ k, k < ops.size → ∃ d, d ∈ acc ∧ d.i = k
  | acc, d :: r => (∃ o, Chkd P h N ops acc d o) ∧ Good P h N ops (d :: acc) r

theorem normDrawI_good {P : Program} {h : Hints} {N : Nat} {ops : Array Oper} : ∀ (l : List (Nat × Bool)) (acc dl : List DI), normDrawI P h N ops acc l = some dl → Good P h N ops acc dl
  | [], acc, dl, hn => by
    simp only [normDrawI] at hn
    split at hn
    · rename_i hc
      injection hn with hn; subst hn
      intro k hk
      have := List.all_eq_true.1 hc k (by simpa using hk)
      obtain ⟨d, h1, h2⟩ := List.any_eq_true.1 this
      exact ⟨d, h1, by simpa using h2⟩
    · cases hn
  | (i, chg) :: r, acc, dl, hn => by
    simp only [normDrawI] at hn
    split at hn
    · cases hn
    · rename_i o ho
      split at hn
      · rename_i ao anc h1 h2
        split at hn
        · rename_i h3
          split at hn
          · rename_i l hl
            split at hn
            · rename_i ds hds
              injection hn with hn; subst hn
              refine ⟨⟨o, ho, h1, h2, rfl, rfl, fun d' hd' => ?_, fun hc => ?_⟩, normDrawI_good r _ _ hds⟩
              · have := List.all_eq_true.1 h3 d' hd'
                simpa using this
              · simp only at hc
                rw [if_pos hc] at hl
                exact hl
            · cases hn
          · cases hn
        · cases hn
      · cases hn

theorem Good.at {P : Program} {h : Hints} {N : Nat} {ops : Array Oper} : ∀ (dl acc : List DI), Good P h N ops acc dl → ∀ (p : Nat) (d : DI), dl[p]? = some d → ∃ o, Chkd P h N ops ((dl.take p).reverse ++ acc) d o
  | [], _, _, p, d, hp => by simp at hp
  | e :: r, acc, hg, p, d, hp => by
    obtain ⟨h1, h2⟩ := hg
    cases p with
    | zero => simp at hp; subst hp; simpa using h1
    | succ p =>
      simp at hp
      have := Good.at r (e :: acc) h2 p d hp
      simpa [List.append_assoc] using this

theorem Good.all {P : Program} {h : Hints} {N : Nat} {ops : Array Oper} : ∀ (dl acc : List DI), Good P h N ops acc dl → ∀ k, k < ops.size → ∃ d, (d ∈ acc ∨ d ∈ dl) ∧ d.i = k
  | [], _, hg, k, hk => let ⟨d, h1, h2⟩ := hg k hk; ⟨d, .inl h1, h2⟩
  | e :: r, acc, hg, k, hk => by
    obtain ⟨d, h1, h2⟩ := Good.all r (e :: acc) hg.2 k hk
    refine ⟨d, ?_, h2⟩
    rcases h1 with h1 | h1
    · cases h1 with
      | head => exact .inr (by simp)
      | tail _ h1 => exact .inl h1
    · exact .inr (by simp [h1])

theorem lookA_some : ∀ (acc : List DI) (i m : Nat), lookA acc i = some m → ∃ d, d ∈ acc ∧ d.i = i ∧ d.anc = m
  | [], _, _, h => by cases h
  | d :: r, i, m, h => by
    simp only [lookA] at h
    split at h
    · rename_i hi; injection h with h; exact ⟨d, by simp, hi, h⟩
    · obtain ⟨d', h1, h2⟩ := lookA_some r i m h
      exact ⟨d', by simp [h1], h2⟩

theorem ancOf_dep (acc : List DI) : ∀ (l : List Edge) (m : Nat), ancOf acc l = some m → ∀ e, e ∈ l → Region.binds .any e = true → ∃ d, d ∈ acc ∧ d.i = e.on
  | [], _, _, _, he, _ => by cases he
  | x :: r, m, h, e, he, hb => by
    simp only [ancOf] at h
    cases he with
    | head =>
      rw [if_pos hb] at h
      split at h
      · rename_i m' k h1 h2
        obtain ⟨d, h3, h4, _⟩ := lookA_some acc _ _ h1
        exact ⟨d, h3, h4⟩
      · cases h
    | tail _ he =>
      split at h
      · split at h
        · rename_i m' k h1 h2
          exact ancOf_dep acc r k h2 e he hb
        · cases h
      · exact ancOf_dep acc r m h e he hb

theorem ancOf_bit (acc : List DI) : ∀ (l : List Edge) (m : Nat), ancOf acc l = some m → ∀ k, Nat.testBit m k = true → ∃ e, e ∈ l ∧ Region.binds .any e = true ∧ (e.on = k ∨ ∃ d, d ∈ acc ∧ d.i = e.on ∧ Nat.testBit d.anc k = true)
  | [], m, h, k, hk => by
    simp only [ancOf, Option.some.injEq] at h
    subst h; simp at hk
  | x :: r, m, h, k, hk => by
    simp only [ancOf] at h
    have ih := ancOf_bit acc r
    split at h
    · rename_i hb
      split at h
      · rename_i m' k' h1 h2
        injection h with h; subst h
        simp only [Nat.testBit_or, Bool.or_eq_true, Nat.shiftLeft_eq, Nat.one_mul, Nat.testBit_two_pow] at hk
        rcases hk with hk | hk | hk
        · exact ⟨x, by simp, hb, .inl (by simpa using hk)⟩
        · obtain ⟨d, h3, h4, h5⟩ := lookA_some acc _ _ h1
          exact ⟨x, by simp, hb, .inr ⟨d, h3, h4, by rw [h5]; exact hk⟩⟩
        · obtain ⟨e, h3, h4⟩ := ih k' h2 k hk
          exact ⟨e, by simp [h3], h4⟩
      · cases h
    · obtain ⟨e, h3, h4⟩ := ih m h k hk
      exact ⟨e, by simp [h3], h4⟩
end Go.Proofs.Kh
