/- The machine's operations do what the model's do: the rest of those that call nothing. -/
import Derived.Test.YtgnmblegndbflaaGreatDoorKhP
import Derived.Laws.BytesString
namespace Go.Proofs.Kh
set_option linter.all false
set_option linter.unusedVariables false
set_option linter.unusedSimpArgs false
open Go
section
variable {P : Program} {tm : Nat} {G : Gh} {st : St} {w : World} {x : AV}

/-- A part of a struct that is a value. -/
theorem fld_agg {t : TypeId} {g : Bool} {n off : Nat} {v : Value} {cs : List AV} {r : AV} (inv : Inv G st w) (hg : aggOf P t = some g) (hn : sizeT P t = some n) (h : RelV G st v (.agg cs)) (hr : ofCells g n cs off = some r) :
    Yields P tm G st w (do part t (← asAgg v) off) r st := by
  obtain ⟨vs, rfl, hl, ho, hrr⟩ := h.agg_inv
  unfold ofCells at hr
  cases g with
  | false =>
    simp only [Bool.false_eq_true, if_false] at hr
    have hk : off < vs.size := by have := (List.getElem?_eq_some_iff.1 hr).1; omega
    refine .same (v := vs[off]) ?_ (hrr off _ r (by simp [hk]) hr) inv
    simp [asAgg, part, run_isAgg hg, hk]
  | true =>
    simp only [if_true] at hr
    split at hr
    · rename_i hle
      injection hr with hr; subst hr
      refine .same (v := .agg (vs.extract off (off + n))) ?_ (mkAgg_rel (.agg _ _ ?_ ?_ ?_)) inv
      · simp [asAgg, part, run_isAgg hg, run_sizeT hn]
      · simp; omega
      · intro k u hu
        simp only [Array.getElem?_extract] at hu
        split at hu
        · exact ho _ u hu
        · cases hu
      · intro k u c hu hc
        simp only [Array.getElem?_extract] at hu
        split at hu
        · rename_i hk
          rw [List.getElem?_take, if_pos (by omega), List.getElem?_drop] at hc
          exact hrr _ u c hu hc
        · cases hu
    · cases hr

theorem fld_pd {t : TypeId} {g : Bool} {n off : Nat} {v : Value} {cs : List PD} {r : PD} (inv : Inv G st w) (hg : aggOf P t = some g) (hn : sizeT P t = some n) (h : RelP G.M v (.agg cs)) (hr : ofCellsPD g n cs off = some r) :
    Yields P tm G st w (do part t (← asAgg v) off) (.pd r) st := by
  obtain ⟨vs, rfl, hl, hs, hrr⟩ := h.agg_inv
  unfold ofCellsPD at hr
  cases g with
  | false =>
    simp only [Bool.false_eq_true, if_false] at hr
    have hk : off < vs.size := by have := (List.getElem?_eq_some_iff.1 hr).1; omega
    refine .same (v := vs[off]) ?_ (.pd _ _ (hrr off _ r (by simp [hk]) hr)) inv
    simp [asAgg, part, run_isAgg hg, hk]
  | true =>
    simp only [if_true] at hr
    split at hr
    · rename_i hle
      injection hr with hr; subst hr
      refine .same (v := .agg (vs.extract off (off + n))) ?_ (.pd _ _ (.agg _ _ ?_ ?_ ?_)) inv
      · simp [asAgg, part, run_isAgg hg, run_sizeT hn]
      · simp; omega
      · intro c hc
        exact hs c (List.mem_of_mem_drop (List.mem_of_mem_take hc))
      · intro k u c hu hc
        simp only [Array.getElem?_extract] at hu
        split at hu
        · rename_i hk
          rw [List.getElem?_take, if_pos (by omega), List.getElem?_drop] at hc
          exact hrr _ u c hu hc
        · cases hu
    · cases hr

theorem addr_add (b o n : Nat) : (⟨b, o, none⟩ : Addr).add n = ⟨b, o + n, none⟩ := by unfold Addr.add; split <;> simp_all

/-- An element's place. -/
theorem iaddr_sound {t e : TypeId} {sz : Nat} {v : Value} {k : IntKind} {n : Int} {i : Nat} {el : PD} {xs : List PD} (inv : Inv G st w) (ht : P.underlying t = some (.slice e)) (hsz : sizeT P e = some sz) (h : RelV G st v x)
    (he : elems st x = some xs) (h0 : 0 ≤ n) (hi : n.toNat = i) (hx : xs[i]? = some el) (hw : el.cells.length = sz) (himm : ∀ id m, x = .row id m → ∃ s ys, st[id]? = some (.row false s ys)) :
    Yields P tm G st w (Instr.indexAt t v (.int k n)) (.pd (.ref el.cells 0)) st := by
  have hlt : i < xs.length := (List.getElem?_eq_some_iff.1 hx).1
  have hp : ∃ p, pd1 st x = some (.sl xs) ∧ p = PD.sl xs := by
    refine ⟨_, ?_, rfl⟩
    cases x with
    | pd y =>
      cases y with
      | sl ys => simp only [elems, Option.some.injEq] at he; subst he; rfl
      | _ => simp [elems] at he
    | nil => simp only [elems, Option.some.injEq] at he; subst he; rfl
    | tight ys => simp only [elems, Option.some.injEq] at he; subst he; rfl
    | row id m =>
      obtain ⟨s, ys, hst⟩ := himm id m rfl
      simp only [elems, hst] at he
      simp only [pd1, hst]
      split at he
      · rename_i hl
        injection he with he; subst he
        simp [hl]
      · cases he
    | _ => simp [elems] at he
  obtain ⟨_, hp, _⟩ := hp
  have hr := pd1_rel inv h hp
  cases hr with
  | slnil => simp at hlt
  | sl b o cap sz' _ vf hc hm hw' hs hM hr =>
    have hsz' : sz' = sz := by rw [← hw, hw' el (List.mem_of_getElem? hx)]
    subst hsz'
    have hfl := flat_length xs hw'
    have hin := in_row (sz := sz') (n := sz') (off := 0) hlt (by omega)
    refine .same (v := .pointer (some ⟨b, o + i * sz', none⟩)) ?_ ?_ inv
    · have h1 : 0 ≤ n ∧ n < (xs.length : Int) := by omega
      simp only [Instr.indexAt, asIntOf, Sem.run_bind, Sem.run_pure, Result.andThen_ok, run_underlying ht]
      rw [if_pos h1]
      simp only [Sem.run_bind, run_sizeT hsz, Result.andThen_ok, Sem.run_pure, addr_add, hi]
    · have := RelP.ref (M := G.M) b (o + i * sz') 0 el.cells (fun j => vf (i * sz' + j)) (fun c hc => hs c (by simp only [flat, List.mem_flatMap]; exact ⟨el, List.mem_of_getElem? hx, hc⟩))
        (fun j hj => by rw [Nat.add_assoc]; exact hM _ (by omega)) (fun j c hj => by
          have hjl : j < el.cells.length := (List.getElem?_eq_some_iff.1 hj).1
          exact hr _ c (by rw [flat_at xs hw' i el hx j (by omega)]; exact hj))
      exact .pd _ _ this

theorem iaddr_row {t e : TypeId} {sz id m : Nat} {v : Value} {k : IntKind} {n : Int} {mt : Bool} {xs : List PD} (inv : Inv G st w) (ht : P.underlying t = some (.slice e)) (hsz : sizeT P e = some sz) (h : RelV G st v (.row id m))
    (hs : st[id]? = some (.row mt sz xs)) (hl : xs.length = m) (h0 : 0 ≤ n) (hn : n.toNat < m) : Yields P tm G st w (Instr.indexAt t v (.int k n)) (.rp id m n.toNat 0) st := by
  have hlt : id < st.length := (List.getElem?_eq_some_iff.1 hs).1
  rcases slAt_row inv h hs hl with ⟨_, rfl, _⟩ | ⟨s, s0, s1⟩
  · simp at hl; omega
  · obtain ⟨b, o, cap, z, f, hv, _, _, _, _, _, _⟩ := s
    simp only at s0 s1
    subst s0; subst hv
    refine .same (v := .pointer (some ⟨b, n.toNat * sz, none⟩)) ?_ (.rp _ _ _ _ _ hlt rfl fun mt' sz' xs' hh => ?_) inv
    · have h1 : 0 ≤ n ∧ n < (xs.length : Int) := by omega
      simp only [Instr.indexAt, asIntOf, Sem.run_bind, Sem.run_pure, Result.andThen_ok, run_underlying ht]
      rw [if_pos h1]
      simp only [Sem.run_bind, run_sizeT hsz, Result.andThen_ok, Sem.run_pure, addr_add, Nat.zero_add]
    · rw [hs] at hh
      injection hh with hh; injection hh with a1 a2 a3; subst a2; subst a3
      exact ⟨by omega, fun _ => ⟨b, cap, s1, hn, by simp⟩⟩

theorem nilck_fn {f : FuncId} {us vs : Array Value} (o : Oper) (a : Act) (y : Operand) (ho : o.op = .nilCheck y) (hv : a.eval y = .func (.func f) us vs) : execOp a.eval o = pure (.value (.func (.func f) us vs)) := by
  unfold execOp
  rw [ho]
  simp only [hv]

theorem nilck_ptr {p : Addr} (o : Oper) (a : Act) (y : Operand) (ho : o.op = .nilCheck y) (hv : a.eval y = .pointer (some p)) : execOp a.eval o = pure (.value (.pointer (some p))) := by
  unfold execOp
  rw [ho]
  simp only [hv]

/-- A text's bytes, as a slice of its own. -/
theorem bytes_sound {src dst e : TypeId} {s : List UInt8} {v : Value} (inv : Inv G st w) (htm : tm ≤ st.length) (h1 : P.underlying src = some .string) (h2 : P.underlying dst = some (.slice e)) (h3 : P.underlying e = some (.int .u8)) (h : RelV G st v (.pd (.str s)))
    (hmax : s.length ≤ maxLen) : Yields P tm G st w (convert src dst v) (.row st.length s.length) (st ++ [.row true 1 (s.map fun b => .int .u8 b.toNat)]) := by
  have hv := h.str_inv
  subst hv
  have hge := grownCap_ge w s.length 0 e
  have hmx := grownCap_le_maxLen w s.length 0 e hmax
  obtain ⟨cap, hcap⟩ : ∃ c, c = grownCap w s.length 0 e := ⟨_, rfl⟩
  rw [← hcap] at hge hmx
  obtain ⟨cur, hcur⟩ : ∃ c : Array Value, c = (s.toArray.map fun b => Value.int .u8 b.toNat) ++ Array.replicate (cap - s.length) (.int .u8 0) := ⟨_, rfl⟩
  have hcs : cur.size = cap := by rw [hcur]; simp; omega
  have hfl := flat_bytes s
  have hget : ∀ (k : Nat) (v : Value), cur[k]? = some v → oneCell v = true := fun k v hv => by
    rw [hcur, Array.getElem?_append] at hv
    split at hv
    · simp only [Array.getElem?_map, Option.map_eq_some_iff] at hv
      obtain ⟨_, _, rfl⟩ := hv; rfl
    · simp only [Array.getElem?_replicate] at hv
      split at hv
      · injection hv with hv; subst hv; rfl
      · cases hv
  have hone : OneMore w ((w.drew.alloc (.cells cur e)).freeze ⟨w.heap.size, cap, none⟩ 1) (.cells cur e (cap, cap + 1)) := by
    refine ⟨?_, rfl, rfl, rfl⟩
    unfold World.freeze
    rw [if_neg (by omega)]
    simp only
    have e0 : (w.drew.alloc (Go.Obj.cells cur e)).heap = w.heap.push (Go.Obj.cells cur e) := rfl
    rw [e0]
    apply Array.ext
    · simp
    · intro k h1 h2
      rw [Array.getElem_modify]
      by_cases hk : k < w.heap.size
      · rw [if_neg (by omega), Array.getElem_push_lt hk, Array.getElem_push_lt hk]
      · have : k = w.heap.size := by simp at h2; omega
        subst this
        simp
  obtain ⟨G', i1, i2, i3⟩ := push_row (tm := tm) inv htm hone (mt := true) (sz := 1) (cap := cap)
    (xs := s.map fun b => PD.int .u8 b.toNat)
    (fun o ho => by rw [hcs] at ho; simp only; omega) (by rw [hcs]; simp) (by simpa using hge) hmx (fun y hy => by
      obtain ⟨b, _, rfl⟩ := List.mem_map.1 hy
      rfl) (fun c hc => by
      rw [hfl] at hc
      obtain ⟨b, _, rfl⟩ := List.mem_map.1 hc
      rfl) hget (fun k v c hv hc => by
      rw [hfl] at hc
      simp only [List.getElem?_map, Option.map_eq_some_iff] at hc
      obtain ⟨b, hb, rfl⟩ := hc
      have hk : k < s.length := (List.getElem?_eq_some_iff.1 hb).1
      rw [hcur, Array.getElem?_append, if_pos (by simpa using hk)] at hv
      simp only [Array.getElem?_map, List.getElem?_toArray, hb, Option.map_some, Option.some.injEq] at hv
      subst hv; exact .int _ _)
  have hl : (s.map fun b => PD.int .u8 b.toNat).length = s.length := by simp
  rw [hl] at i3
  refine ⟨_, G', _, ?_, i3, i1, i2⟩
  have hsz : (⟨s.toArray⟩ : ByteArray).size = s.length := by simp [ByteArray.size]
  have hcap' : (Question.appendCap s.length 0 e).cut (w.tape w.drawn (.appendCap s.length 0 e)) = cap := hcap.symm
  have hsh : (w.drew.alloc (.cells cur e)).shape? w.heap.size = some (e, cap) := by
    have : (w.drew.alloc (.cells cur e)).heap[w.heap.size]? = some (.cells cur e) := (drew_oneMore w (.cells cur e)).new
    simp only [World.shape?, this, hcs]
  have hrun : (Conv.stringToBytes e ⟨s.toArray⟩).run P w = .ok (.slice (some ⟨w.heap.size, 0, none⟩) s.length cap) ((w.drew.alloc (.cells cur e)).freeze ⟨w.heap.size, cap, none⟩ 1) := by
    unfold Conv.stringToBytes
    simp only [hsz, Sem.run_bind, run_choose, Question.forced, Bool.false_eq_true, if_false, Result.andThen_ok, hcap', run_newRow]
    have e1 : (Array.map (fun b => Value.int IntKind.u8 ↑b.toNat) s.toArray ++ Array.replicate (cap - s.length) (Value.int IntKind.u8 0)) = cur := hcur.symm
    rw [e1]
    have e2 : ({ w with drawn := w.drawn + 1 } : World).alloc (.cells cur e) = w.drew.alloc (.cells cur e) := rfl
    rw [e2]
    have e3 : ({ w with drawn := w.drawn + 1 } : World).heap.size = w.heap.size := rfl
    rw [e3]
    simp only [markStringish, Sem.run_bind, run_shape, hsh, Result.andThen_ok, run_freeze, Sem.run_pure]
  simp only [convert, Sem.run_bind, run_underlying h1, run_underlying h2, run_underlying h3, Result.andThen_ok, hrun]

theorem bytesOfPD_some : ∀ (xs : List PD) (bs : List UInt8), bytesOfPD xs = some bs → ∃ ns : List Int, xs = ns.map (fun n => PD.int .u8 n) ∧ bs = ns.map (fun n => UInt8.ofNat n.toNat)
  | [], bs, h => by simp only [bytesOfPD, Option.some.injEq] at h; subst h; exact ⟨[], rfl, rfl⟩
  | x :: xs, bs, h => by
    unfold bytesOfPD at h
    split at h <;> first | (cases h; done) | skip
    · rename_i hh; cases hh
    · rename_i n r hh
      injection hh with h1 h2; subst h1; subst h2
      split at h
      · rename_i cs hcs
        injection h with h; subst h
        obtain ⟨ns, e1, e2⟩ := bytesOfPD_some _ _ hcs
        exact ⟨n :: ns, by rw [e1]; rfl, by rw [e2]; rfl⟩
      · cases h

theorem str_sound {src dst e : TypeId} {xs : List PD} {bs : List UInt8} {v : Value} (inv : Inv G st w) (h1 : P.underlying src = some (.slice e)) (h2 : P.underlying dst = some .string) (h3 : P.underlying e = some (.int .u8)) (h : RelV G st v x)
    (he : elems st x = some xs) (hb : bytesOfPD xs = some bs) : Yields P tm G st w (convert src dst v) (.pd (.str bs)) st := by
  refine .same (v := .string ⟨bs.toArray⟩) ?_ (.ofStr _) inv
  obtain ⟨ns, rfl, rfl⟩ := bytesOfPD_some xs bs hb
  rcases slAt inv h he with ⟨rfl, hn⟩ | ⟨⟨s⟩⟩
  · have : ns = [] := by simpa using hn
    subst this
    simp only [convert, Sem.run_bind, run_underlying h1, run_underlying h2, run_underlying h3, Result.andThen_ok]
    rfl
  · have hfl : flat (ns.map fun n => PD.int .u8 n) = ns.map fun n => PD.int .u8 n := by
      clear hb h he s
      induction ns with
      | nil => rfl
      | cons n ns ih => unfold flat at *; rw [List.map_cons, List.flatMap_cons, ih]; rfl
    obtain ⟨news, n1, n2, n3, n4⟩ := s.cells
    rw [s.hv]
    have hnews : news = ns.map fun n => Value.int .u8 n := by
      rw [hfl] at n1 n4
      apply List.ext_getElem?
      intro k
      by_cases hk : k < ns.length
      · have hk' : k < news.length := by rw [n1]; simpa using hk
        have := n4 k news[k] (.int .u8 ns[k]) (by simp [hk']) (by simp [hk])
        have := this.int_inv
        simp [hk, hk', this]
      · rw [List.getElem?_eq_none (by rw [n1]; simpa using hk), List.getElem?_eq_none (by simpa using hk)]
    have hl := run_loadCells_list (P := P) (w := w) ⟨s.b, s.o, none⟩ news n2
    have hln : news.length = (ns.map fun n => PD.int .u8 n).length := by rw [n1, hfl]
    rw [hln, hnews] at hl
    simp only [convert, Sem.run_bind, run_underlying h1, run_underlying h2, run_underlying h3, Result.andThen_ok]
    rw [run_bytesToString w _ _ _ ns hl]
    have key : ∀ (ms : List Int) (acc : ByteArray), ms.foldl (fun r n => r.push (UInt8.ofNat n.toNat)) acc = ⟨(acc.data.toList ++ ms.map fun n => UInt8.ofNat n.toNat).toArray⟩ := by
      intro ms
      induction ms with
      | nil => intro acc; simp
      | cons m ms ih => intro acc; rw [List.foldl_cons, ih]; simp
    rw [key]
    rfl
end
end Go.Proofs.Kh
