/- From the machine to the row: a call that is carried out answers true, and leaves what there was as it was. -/
import Derived.Test.YtgnmblegndbflaaGreatDoorKhEv
import Derived.Carry
import Derived.ProofKit
import Derived.OpenShut
import Derived.Stop.Joined
namespace Go.Proofs.Kh
set_option linter.all false
set_option linter.unusedVariables false
set_option linter.unusedSimpArgs false
open Go Go.ChangeShapes Go.WideShapes Go.WideElems Go.RowKit

/-- What there is now, held still. -/
def now (w : World) : Gh := ⟨fun b o => w.cell? ⟨b, o, none⟩, fun _ => none⟩

theorem now_inv (w : World) : Inv (now w) [] w where
  mem := fun _ _ _ h => h
  objs := fun id ob h => by simp at h
  inj := fun i j p q hi => by simp at hi
  lt := fun i p hi => by simp at hi

theorem calls_true {P : Program} {call : CallF} (hc : CallOK P call) {f : FuncId} {xs : List AV} {st' : St} {w : World} {vs : Array Value} (h : call f xs [] = some (.ret (.pd (.bool true)), st')) (hl : vs.size = xs.length)
    (hr : ∀ (k : Nat) (v : Value) (x : AV), vs[k]? = some v → xs[k]? = some x → RelV (now w) [] v x) (hf : plainF P f = true) : Calls P f vs w fun e w' => e = .returned (.bool true) ∧ Below w.heap.size w w' := by
  refine (hc f xs [] _ st' 0 (now w) w vs h (now_inv w) (Nat.zero_le _) hl hr hf).mono fun e w' he => ?_
  obtain ⟨v, G', rfl, h1, h2, h3⟩ := he
  cases h1 with
  | pd _ _ hx =>
    rw [hx.bool_inv]
    exact ⟨rfl, ⟨h3.os, h3.tape, h3.output, h3.size, fun k hk => (h3.foreign k hk (fun ⟨i, c, hi, _⟩ => by simp at hi)).1⟩⟩

section
variable {H : Type} {enc : TypeId × Value → H} {P : Program} {W W' : World}

theorem trodAll_stays (hl : laidOutB P = true) {sp' : Nat → Bool} : ∀ {ts : List TypeId} {vs : List Value} {ds : List (DataW H)} {ps : List MemPlace}, (∀ t, t ∈ ts → P.readableRec t = true ∧ t < P.types.size) → DataW.TrodAll enc P W 0 (fun _ => true) true ts vs ds ps →
    (∀ p ∈ ps, W.sameAt W' p) → (∀ p ∈ ps, sp' p.block = true) → DataW.TrodAll enc P W' 0 sp' true ts vs ds ps
  | [], [], [], _, _, h, _, _ => h
  | [], [], _ :: _, _, _, h, _, _ => h.elim
  | [], _ :: _, _, _, _, h, _, _ => h.elim
  | _ :: _, [], _, _, _, h, _, _ => h.elim
  | _ :: _, _ :: _, [], _, _, h, _, _ => h.elim
  | t :: ts, v :: vs, d :: ds, ps, ht, h, hsame, hs => by
    obtain ⟨p, q, h1, h2, rfl⟩ := h
    exact ⟨p, q, Trod_stays hl (ht t (by simp)).1 (ht t (by simp)).2 h1 (fun x hx => hsame x (by simp [hx])) (fun x hx => hs x (by simp [hx])),
      trodAll_stays hl (fun u hu => ht u (by simp [hu])) h2 (fun x hx => hsame x (by simp [hx])) (fun x hx => hs x (by simp [hx])), rfl⟩

theorem trodAll_len : ∀ {ts : List TypeId} {vs : List Value} {ds : List (DataW H)} {ps : List MemPlace} {sp : Nat → Bool} {b : Nat} {hd : Bool}, DataW.TrodAll enc P W b sp hd ts vs ds ps → ts.length = vs.length ∧ ds.length = vs.length
  | [], [], [], _, _, _, _, _ => ⟨rfl, rfl⟩
  | [], [], _ :: _, _, _, _, _, h => h.elim
  | [], _ :: _, _, _, _, _, _, h => h.elim
  | _ :: _, [], _, _, _, _, _, h => h.elim
  | _ :: _, _ :: _, [], _, _, _, _, h => h.elim
  | _ :: _, _ :: _, _ :: _, _, _, _, _, h => by
    obtain ⟨p, q, h1, h2, rfl⟩ := h
    have := trodAll_len h2
    simp [this.1, this.2]

theorem kept_of_below (hb : Below W.heap.size W W') (may : MemPlace → Prop) : W.keptBut W' may := by
  refine ⟨hb.os, hb.output, fun i hi => ?_⟩
  rw [hb.block i hi]
  cases h : W.heap[i]? with
  | none => simp
  | some o => cases o <;> simp

theorem frozen_of_below (hb : Below W.heap.size W W') {a : Addr} (ha : a.block < W.heap.size) : W'.frozen? a = W.frozen? a := by
  unfold World.frozen?
  rw [hb.block _ ha]

/-- It answers true, and leaves what there was as it was: so says the row. -/
theorem post_true {f : Func} {s : ChangeSpec} {apart fresh handsOn again : Bool} {args : Array Value} {tb : TypeId} {ds gs : List (DataW H)} {before : List MemPlace} (hl : laidOutB P = true) (hts : ∀ t, t ∈ f.params.toList → P.readableRec t = true ∧ t < P.types.size)
    (hvars : s.vars = []) (hfn : ∀ ds : List (DataW H), ds.length = f.params.toList.length → s.fn H ds = ⟨[.lit (.bool true)], ds, []⟩) (hres : f.resultTypes = #[tb]) (htb : P.underlying tb = some .bool)
    (hW : DataW.Whole enc P f.params.toList s.vars apart W args.toList ds gs before) (hb : Below W.heap.size W W') : s.post enc P f apart fresh handsOn again W args (.bool true) W' := by
  have hW0 := hW
  obtain ⟨p, q, hA, hV, rfl, hfz, hnd⟩ := hW
  rw [hvars] at hV
  obtain ⟨rfl, rfl⟩ := trodVars_none hV
  have hlt : ∀ x ∈ p, x.block < W.heap.size := fun x hx => hA.lt x hx
  have hA' : ∀ sp : Nat → Bool, (∀ x ∈ p, sp x.block = true) → DataW.TrodAll enc P W' 0 sp true f.params.toList args.toList ds p :=
    fun sp hsp => trodAll_stays hl hts hA (fun x hx => hb.same (hlt x hx)) hsp
  have hlen := trodAll_len hA
  have hfn' := hfn (ds ++ []) (by simp [hlen.1, hlen.2])
  have hR : ∀ (b : Nat) (sp : Nat → Bool) (hd : Bool), DataW.TrodAll enc P W' b sp hd f.resultTypes.toList ((Value.bool true).resultList f.resultTypes.size) [.lit (.bool true)] [] := fun b sp hd => by
    rw [hres]
    exact trodAll_mk1 (shut_bool htb _)
  refine ⟨ds, [], p ++ [], [], p, [], hW0, ?_, ?_, ?_, kept_of_below hb _, fun _ => ⟨ok_one hres rfl (okWide_bool_mk htb _), [.lit (.bool true)] ++ ds, [], [] ++ p, ⟨[] ++ p, [], ?_, ?_, by simp, ?_, ?_⟩, ?_⟩⟩
  · rw [hfn']; exact hR _ _ _
  · rw [hfn']; simp only [List.append_nil]; exact hA' _ fun x hx => by simpa using hlt x hx
  · rw [hfn', hvars]; rfl
  · exact trodAll_append (hA' (fun _ => true) fun _ _ => rfl) (hR _ _ _)
  · rw [hvars]; rfl
  · intro b off hp
    simp only [List.nil_append] at hp
    rw [frozen_of_below hb (hlt _ hp)]
    exact hfz b off (by simpa using hp)
  · intro ha
    simpa using hnd ha
  · intro x hx _
    simpa using hx
end
end Go.Proofs.Kh
