/- Each of the machine's operations does what the model's does: all together. -/
import Derived.Test.YtgnmblegndbflaaGreatDoorKhV
import Derived.Laws.Externs
import Derived.KernelRfl
namespace Go.Proofs.Kh
set_option linter.all false
set_option linter.unusedVariables false
set_option linter.unusedSimpArgs false
open Go

theorem isIB_some {P : Program} {f : FuncId} (h : isIB P f = true) : ∃ fn, P.funcs[f]? = some fn ∧ fn.body.isNone = true ∧ fn.name = "internal/bytealg.IndexByteString" ∧ fn.origin = "" := by
  unfold isIB at h
  split at h
  · rename_i fn hf
    simp only [Bool.and_eq_true, beq_iff_eq] at h
    exact ⟨fn, hf, h.1.1, h.1.2, h.2⟩
  · cases h

theorem ib1 : Extern.allNextRows.lookup "internal/bytealg.IndexByteString" = none := by kernel_rfl
theorem ib2 : Extern.allNextRows.lookup "" = none := by kernel_rfl
theorem ib3 : Extern.allGenericRows.lookup "internal/bytealg.IndexByteString" = none := by kernel_rfl
theorem ib4 : Extern.allTypedRows.lookup "internal/bytealg.IndexByteString" = none := by kernel_rfl
theorem ib5 : Extern.allRows.lookup "internal/bytealg.IndexByteString" = some Extern.BytealgIndexByte.indexByte := by kernel_rfl

theorem findNext_ib {fn : Func} (h : fn.name = "internal/bytealg.IndexByteString") (h' : fn.origin = "") : Extern.findNext fn = none := by
  unfold Extern.findNext
  simp only [h, h', ib1, ib2]
  rfl

theorem find_ib {fn : Func} (h : fn.name = "internal/bytealg.IndexByteString") : Extern.find fn = some Extern.BytealgIndexByte.indexByte := by
  unfold Extern.find
  simp only [h, ib3, ib4, ib5]
  rfl

theorem idx_gen (c : UInt8) (f : Nat → UInt8) : ∀ (r : List UInt8) (k : Nat), (∀ (j : Nat) (x : UInt8), r[j]? = some x → f (k + j) = x) →
    (match (List.range' k r.length).find? fun i => f i == c with
      | some i => (i : Int)
      | none => -1) = idxOfB c r k
  | [], k, _ => rfl
  | b :: r, k, h => by
    have h0 := h 0 b rfl
    rw [Nat.add_zero] at h0
    simp only [List.length_cons, List.range'_succ, List.find?_cons, idxOfB, h0]
    cases hb : (b == c) with
    | true => simp
    | false =>
      simp only [Bool.false_eq_true, if_false]
      exact idx_gen c f r (k + 1) fun j x hj => by rw [← h (j + 1) x (by simpa using hj)]; congr 1; omega

theorem firstIdx_eq (s : List UInt8) (c : UInt8) : firstIdx ⟨s.toArray⟩ c = idxOfB c s 0 := by
  rw [← idx_gen c (fun i => (⟨s.toArray⟩ : ByteArray)[i]!) s 0 fun j x hj => ?_]
  · unfold firstIdx
    rw [List.range_eq_range']
    rfl
  · have hl : j < s.length := (List.getElem?_eq_some_iff.1 hj).1
    have hx := (List.getElem?_eq_some_iff.1 hj).2
    rw [Nat.zero_add, getElem!_pos (⟨s.toArray⟩ : ByteArray) j (by simpa [ByteArray.size] using hl)]
    exact hx

section
variable {P : Program} {G : Gh} {st : St} {w : World} {o : Oper} {a : Act} {next : Act → World → Prop} {Q : Exit → Act → World → Prop} {call : CallF} {ly : Ly} {ad : List (Nat × Nat × Bool)} {br : Bool} {ao : AOp} {r : ARes} {st' : St}

theorem s_indexAddr {t : TypeId} {y i : Operand} (he : EnvRel G st a ly) (inv : Inv G st w) (ho : o.op = .indexAddr t y i) (hn : normOp P ad br o = some ao) (hrun : ao.run call ly st = some (r, st'))
    (hp : Post (Ly.top ly) G st w r st' o a next Q) : o.wp P a w next Q := by
  have hop : execOp a.eval o = (do pure (Next.value (← Instr.indexAt t (a.eval y) (a.eval i)))) := by unfold execOp; rw [ho]
  unfold normOp at hn
  rw [ho] at hn
  simp only at hn
  split at hn
  · rename_i e p q ht hy hi
    split at hn
    · rename_i sz hsz
      injection hn with hn; subst hn
      simp only [AOp.run] at hrun
      split at hrun
      · rename_i x k n hx hx2
        have e1 := ev_rel he hy hx
        have e2 := (ev_rel he hi hx2).int_inv
        rw [e2] at hop
        split at hrun
        · rename_i h0
          split at hrun
          · rename_i id m
            split at hrun
            · rename_i mt sz' xs hs
              split at hrun
              · rename_i hc
                obtain ⟨c1, c2, c3⟩ := hc
                subst c2
                obtain ⟨rfl, rfl⟩ := val_inj hrun
                exact wp_yields hp hop (iaddr_row inv ht hsz e1 hs c1 h0 c3)
              · cases hrun
            · cases hrun
          · rename_i hne
            split at hrun
            · rename_i xs hxs
              split at hrun
              · rename_i el hel
                split at hrun
                · rename_i hw
                  obtain ⟨rfl, rfl⟩ := val_inj hrun
                  exact wp_yields hp hop (iaddr_sound inv ht hsz e1 hxs h0 rfl hel hw (fun id m h => (hne id m h).elim))
                · cases hrun
              · cases hrun
            · cases hrun
        · cases hrun
      · cases hrun
    · cases hn
  · rename_i len e p q ht hy hi
    split at hn
    · rename_i sz hsz
      split at hn
      · rename_i hlen
        injection hn with hn; subst hn
        simp only [AOp.run] at hrun
        split at hrun
        · rename_i x k n hx hx2
          have e1 := ev_rel he hy hx
          have e2 := (ev_rel he hi hx2).int_inv
          rw [e2] at hop
          split at hrun
          · rename_i hc
            have hgo : ∀ b o' : Nat, (Instr.indexAt t (.pointer (some ⟨b, o', none⟩)) (.int k n)).run P w = .ok (.pointer (some ⟨b, o' + n.toNat * sz, none⟩)) w := by
              intro b o'
              unfold Instr.indexAt
              simp only [asIntOf, Sem.run_bind, Sem.run_pure, Result.andThen_ok, run_underlying ht, sureAddr_run]
              rw [if_pos hc]
              simp only [Sem.run_bind, run_sizeT hsz, Result.andThen_ok, Sem.run_pure, addr_add]
            split at hrun
            · rename_i id o1
              obtain ⟨rfl, rfl⟩ := val_inj hrun
              generalize a.eval y = v at e1 hop
              cases e1 with
              | ptr _ _ b c h2 h3 h4 => exact wp_yields hp hop (.same (hgo b o1) (.ptr _ _ _ _ h2 h3 h4) inv)
            · rename_i cs o1
              obtain ⟨rfl, rfl⟩ := val_inj hrun
              have e3 := e1.pd_inv
              generalize a.eval y = v at e3 hop
              cases e3 with
              | ref b o' _ _ vf q1 q2 q3 =>
                refine wp_yields hp hop (.same (hgo b (o' + o1)) ?_ inv)
                rw [Nat.add_assoc]
                exact .pd _ _ (.ref b o' (o1 + n.toNat * sz) cs vf q1 q2 q3)
            · cases hrun
          · cases hrun
        · cases hrun
      · cases hn
    · cases hn
  · cases hn

theorem s_index {t : TypeId} {y i : Operand} (he : EnvRel G st a ly) (inv : Inv G st w) (ho : o.op = .index t y i) (hn : normOp P ad br o = some ao) (hrun : ao.run call ly st = some (r, st'))
    (hp : Post (Ly.top ly) G st w r st' o a next Q) : o.wp P a w next Q := by
  have hop : execOp a.eval o = (do pure (Next.value (← Instr.index t (a.eval y) (a.eval i)))) := by unfold execOp; rw [ho]
  unfold normOp at hn
  rw [ho] at hn
  simp only at hn
  split at hn
  · rename_i p q ht hy hi
    injection hn with hn; subst hn
    simp only [AOp.run] at hrun
    split at hrun
    · rename_i s k n hx hx2
      have e1 := (ev_rel he hy hx).str_inv
      have e2 := (ev_rel he hi hx2).int_inv
      split at hrun
      · rename_i h0
        split at hrun
        · rename_i b hb
          obtain ⟨rfl, rfl⟩ := val_inj hrun
          refine wp_yields hp hop (.same (v := .int .u8 b.toNat) ?_ (.ofInt _ _) inv)
          rw [e1, e2]
          have hg : (⟨s.toArray⟩ : ByteArray)[n.toNat]? = some b := by
            have hlt : n.toNat < s.length := (List.getElem?_eq_some_iff.1 hb).1
            have hsz : (⟨s.toArray⟩ : ByteArray).size = s.length := by simp [ByteArray.size]
            rw [getElem?_pos _ _ (by rw [hsz]; exact hlt)]
            have : s[n.toNat] = b := by rw [List.getElem?_eq_getElem hlt] at hb; injection hb
            rw [← this]; rfl
          unfold Instr.index
          simp only [asIntOf, Sem.run_bind, Sem.run_pure, Result.andThen_ok, run_underlying ht]
          rw [if_pos h0, hg]
          rfl
        · cases hrun
      · cases hrun
    · cases hrun
  · rename_i len e p q ht hy hi
    split at hn
    · rename_i g sz hg hsz
      injection hn with hn; subst hn
      simp only [AOp.run] at hrun
      split at hrun
      · rename_i cs k n hx hx2
        have e1 := (ev_rel he hy hx).pd_inv
        have e2 := (ev_rel he hi hx2).int_inv
        split at hrun
        · rename_i hc
          split at hrun
          · rename_i z hz
            obtain ⟨rfl, rfl⟩ := val_inj hrun
            refine wp_yields hp hop ((fld_pd inv hg hsz e1 hz).of_run ?_)
            obtain ⟨vs, hv, _, _, _⟩ := e1.agg_inv
            rw [e2, hv]
            unfold Instr.index
            simp only [asIntOf, Sem.run_bind, Sem.run_pure, Result.andThen_ok, run_underlying ht, asAgg]
            rw [if_pos hc]
            simp only [Sem.run_bind, run_sizeT hsz, Result.andThen_ok]
          · cases hrun
        · cases hrun
      · cases hrun
    · cases hn
  · cases hn

theorem s_range {t : TypeId} {y : Operand} (he : EnvRel G st a ly) (inv : Inv G st w) (htm : Ly.top ly ≤ st.length) (ho : o.op = .range t y) (hn : normOp P ad br o = some ao) (hrun : ao.run call ly st = some (r, st'))
    (hp : Post (Ly.top ly) G st w r st' o a next Q) : o.wp P a w next Q := by
  have hop : execOp a.eval o = (do pure (Next.value (← Instr.range t (a.eval y)))) := by unfold execOp; rw [ho]
  unfold normOp at hn
  rw [ho] at hn
  simp only at hn
  split at hn
  · rename_i p ht hy
    injection hn with hn; subst hn
    simp only [AOp.run] at hrun
    split at hrun
    · rename_i s hx
      obtain ⟨rfl, rfl⟩ := val_inj hrun
      have e1 := (ev_rel he hy hx).str_inv
      have hm := alloc_oneMore w (.stringIter ⟨s.toArray⟩ 0)
      obtain ⟨i1, i2⟩ := more (tm := Ly.top ly) inv htm (ob := .iter s 0) (w' := w.alloc (.stringIter ⟨s.toArray⟩ 0)) (G' := G.put st.length (some (w.heap.size, 0)))
        (fun j hj => by simp [Gh.put, Nat.ne_of_lt hj]) (Mem.le_refl _) (by rw [hm.size]; omega) (fun b hb => ⟨hm.old hb, fun _ => rfl⟩)
        (fun p hp => by simp [Gh.put] at hp; subst hp; exact ⟨by rw [hm.size]; simp, Nat.le_refl _⟩)
        (fun b o v hm' => by rw [cell_same (hm.old (inv.mem_lt hm'))]; exact inv.mem b o v hm') rfl rfl rfl
        (fun ext => ⟨w.heap.size, 0, by simp [Gh.put], hm.new⟩)
      refine wp_yields hp hop ⟨.pointer (some ⟨w.heap.size, 0, none⟩), _, _, ?_, .ptr _ 0 _ 0 (by simp) (fun _ _ _ hh => by simp at hh) (by simp [Gh.put]), i1, i2⟩
      rw [e1]
      unfold Instr.range
      simp only [Sem.run_bind, run_underlying ht, Result.andThen_ok, Sem.run_pure, run_newObj]
      rfl
    · cases hrun
  · cases hn

theorem s_next {y : Operand} {b0 : Bool} (he : EnvRel G st a ly) (inv : Inv G st w) (ho : o.op = .next y b0) (hn : normOp P ad br o = some ao) (hrun : ao.run call ly st = some (r, st'))
    (hp : Post (Ly.top ly) G st w r st' o a next Q) : o.wp P a w next Q := by
  have hop : execOp a.eval o = (do pure (Next.value (← Instr.next (a.eval y) b0 o.type))) := by unfold execOp; rw [ho]
  unfold normOp at hn
  rw [ho] at hn
  cases b0 with
  | false => simp at hn
  | true =>
    simp only at hn
    split at hn
    · rename_i p hy
      injection hn with hn; subst hn
      simp only [AOp.run] at hrun
      split at hrun
      · rename_i id hx
        have e1 := ev_rel he hy hx
        split at hrun
        · rename_i s pos hs
          have hlt : id < st.length := (List.getElem?_eq_some_iff.1 hs).1
          generalize a.eval y = v at e1 hop
          cases e1 with
          | ptr _ _ b c h2 h3 h4 =>
            obtain ⟨b', c', q1, q2⟩ := inv.objs id _ hs
            rw [h4] at q1; injection q1 with q1; injection q1 with q1 q1'; subst q1; subst q1'
            have hsz : (⟨s.toArray⟩ : ByteArray).size = s.length := by simp [ByteArray.size]
            have hbl : b < w.heap.size := (Array.getElem?_eq_some_iff.1 q2).1
            have hgo : (getObj b).run P w = .ok (.stringIter ⟨s.toArray⟩ pos) w := by
              simp only [getObj, Sem.run, q2]
            split at hrun
            · rename_i hpos
              obtain ⟨rfl, rfl⟩ := val_inj hrun
              let w2 : World := { w with heap := w.heap.setIfInBounds b (.stringIter ⟨s.toArray⟩ (pos + (Utf8.decode ⟨s.toArray⟩ pos).2)) }
              have hheap : ∀ b' , b' ≠ b → w2.heap[b']? = w.heap[b']? := fun b' hb' => by
                show (w.heap.setIfInBounds b _)[b']? = _
                rw [Array.getElem?_setIfInBounds_ne (Ne.symm hb')]
              have hnew : w2.heap[b]? = some (.stringIter ⟨s.toArray⟩ (pos + (Utf8.decode ⟨s.toArray⟩ pos).2)) := by
                show (w.heap.setIfInBounds b _)[b]? = _
                simp [hbl]
              have hM : ∀ o, G.M b o = none := fun o => by
                cases hm : G.M b o with
                | none => rfl
                | some v =>
                  have := inv.mem b o v hm
                  simp [World.cell?, q2] at this
              obtain ⟨t1, t2⟩ := turn (tm := Ly.top ly) inv hs (ob' := .iter s (pos + (Utf8.decode ⟨s.toArray⟩ pos).2)) (G' := G) (w' := w2) (fun _ _ => rfl) (Mem.le_refl _) (by simp [w2])
                (fun b' hb' hne => ⟨hheap b' (fun e => hne c (by rw [e]; exact h4)), fun _ => rfl⟩)
                ⟨fun _ h => h, .inl ⟨_, _, by rw [List.getElem?_set_self hlt]⟩⟩ (fun p hp' => ⟨by simpa [w2] using inv.lt id p hlt hp', .inl ⟨p.2, hp'⟩⟩)
                (fun b' o' v hm => by
                  by_cases hb' : b' = b
                  · subst hb'; rw [hM] at hm; cases hm
                  · rw [cell_same (hheap b' hb')]; exact inv.mem b' o' v hm)
                (fun m hm hlow => by
                  intro j cs hj hjs cc hcm
                  by_cases hji : j = id
                  · subst hji
                    rw [List.getElem?_set_self hlt] at hjs
                    injection hjs with hjs; cases hjs
                  · rw [List.getElem?_set_ne (Ne.symm hji)] at hjs
                    exact hlow j cs hj hjs cc hcm)
                rfl rfl rfl (fun ext => ⟨b, c, h4, hnew⟩)
              refine wp_yields hp hop ⟨.tuple #[.bool true, goInt pos, .int .i32 (Utf8.decode ⟨s.toArray⟩ pos).1], G, w2, ?_, ?_, t1, t2⟩
              · unfold Instr.next
                simp only [Sem.run_bind, hgo, Result.andThen_ok, hsz]
                rw [if_pos hpos]
                have hset : (setObj b (.stringIter ⟨s.toArray⟩ (pos + (Utf8.decode ⟨s.toArray⟩ pos).2))).run P w = .ok () w2 := by
                  simp only [setObj, Sem.run, q2]
                  rfl
                simp only [Sem.run_bind, hset, Result.andThen_ok, Sem.run_pure]
              · refine .tup _ _ rfl fun k v c' hv hc' => ?_
                match k with
                | 0 => simp at hv hc'; subst hv; subst hc'; exact .ofBool _
                | 1 => simp at hv hc'; subst hv; subst hc'; exact .ofInt _ _
                | 2 => simp at hv hc'; subst hv; subst hc'; exact .ofInt _ _
                | k + 3 => simp at hv
            · rename_i hpos
              obtain ⟨rfl, rfl⟩ := val_inj hrun
              refine wp_yields hp hop (.same (v := .tuple #[.bool false]) ?_ (.tup _ _ rfl fun k v c' hv hc' => ?_) inv)
              · unfold Instr.next
                simp only [Sem.run_bind, hgo, Result.andThen_ok, hsz]
                rw [if_neg hpos]
                rfl
              · match k with
                | 0 => simp at hv hc'; subst hv; subst hc'; exact .ofBool _
                | k + 1 => simp at hv
        · cases hrun
      · cases hrun
    · cases hn

theorem zeroPD_run {t : TypeId} {z : PD} (h : zeroPD P t = some z) : ∃ v, (zeroValue t).run P w = .ok v w ∧ RelP G.M v z := by
  unfold zeroPD at h
  split at h
  · rename_i i hi
    split at h
    · rename_i cs hz
      split at h
      · rename_i ps hps
        injection h with h; subst h
        obtain ⟨e1, e2, e3⟩ := pdVs_rel G.M _ _ hps
        exact ⟨_, run_zero hi hz, .agg _ _ (by simpa using e1.symm) e2 fun k v c hv hc => e3 k v c (by simpa using hv) hc⟩
      · cases h
    · rename_i v _ hz
      exact ⟨_, run_zero hi hz, (pdV_rel G.M h).1⟩
    · cases h
  · cases h

theorem two_rel {u v : Value} {x y : AV} (h1 : RelV G st u x) (h2 : RelV G st v y) : RelV G st (.tuple #[u, v]) (.tup [x, y]) := by
  refine .tup _ _ rfl fun k v c' hv hc' => ?_
  match k with
  | 0 => simp at hv hc'; subst hv; subst hc'; exact h1
  | 1 => simp at hv hc'; subst hv; subst hc'; exact h2
  | k + 2 => simp at hv

theorem s_tass {t xt : TypeId} {y : Operand} {ok : Bool} (he : EnvRel G st a ly) (inv : Inv G st w) (ho : o.op = .typeAssert y xt t ok) (hn : normOp P ad br o = some ao) (hrun : ao.run call ly st = some (r, st'))
    (hp : Post (Ly.top ly) G st w r st' o a next Q) : o.wp P a w next Q := by
  have hop : execOp a.eval o = (do pure (Next.value (← Instr.typeAssert (a.eval y) xt t ok))) := by unfold execOp; rw [ho]
  unfold normOp at hn
  rw [ho] at hn
  simp only at hn
  split at hn
  · cases hn
  · rename_i d p z hni hd hy hz
    injection hn with hn; subst hn
    obtain ⟨zv, z1, z2⟩ := zeroPD_run (w := w) (G := G) hz
    have hfail : ok = true → ∀ x, (x = .nilIface ∨ ∃ u v, x = .iface u v ∧ u ≠ t) → (Instr.typeAssert x xt t ok).run P w = .ok (.tuple #[zv, .bool false]) w := by
      intro hok x hx
      subst hok
      unfold Instr.typeAssert
      simp only [Sem.run_bind, run_underlying hd, Result.andThen_ok]
      rcases hx with rfl | ⟨u, v, rfl, hne⟩
      · cases d <;> first | (exact (hni _ rfl).elim) | (simp only [if_true, Sem.run_bind, z1, Result.andThen_ok, Sem.run_pure])
      · cases d <;> first | (exact (hni _ rfl).elim) | (simp only [hne, if_false, if_true, Sem.run_bind, z1, Result.andThen_ok, Sem.run_pure])
    simp only [AOp.run] at hrun
    split at hrun
    · rename_i u q hx
      obtain ⟨v, hv, hvr⟩ := (ev_rel he hy hx).pd_inv.ifc_inv
      split at hrun
      · rename_i hu
        obtain ⟨rfl, rfl⟩ := val_inj hrun
        refine wp_yields hp hop (.same (v := if ok then .tuple #[v, .bool true] else v) ?_ ?_ inv)
        · rw [hv]
          unfold Instr.typeAssert
          simp only [Sem.run_bind, run_underlying hd, Result.andThen_ok]
          cases d <;> first | (exact (hni _ rfl).elim) | (simp only [hu, if_true, Sem.run_pure])
        · cases ok
          · exact .pd _ _ hvr
          · exact two_rel (.pd _ _ hvr) (.ofBool _)
      · rename_i hu
        split at hrun
        · rename_i hok
          obtain ⟨rfl, rfl⟩ := val_inj hrun
          exact wp_yields hp hop (.same (by rw [hv]; exact hfail hok _ (.inr ⟨u, v, rfl, hu⟩)) (two_rel (.pd _ _ z2) (.ofBool _)) inv)
        · cases hrun
    · rename_i hx
      have hv := (ev_rel he hy hx).pd_inv.nilif_inv
      split at hrun
      · rename_i hok
        obtain ⟨rfl, rfl⟩ := val_inj hrun
        exact wp_yields hp hop (.same (by rw [hv]; exact hfail hok _ (.inl rfl)) (two_rel (.pd _ _ z2) (.ofBool _)) inv)
      · cases hrun
    · cases hrun
  · cases hn

theorem s_ext {y : Operand} {i : Nat} (he : EnvRel G st a ly) (inv : Inv G st w) (ho : o.op = .extract y i) (hn : normOp P ad br o = some ao) (hrun : ao.run call ly st = some (r, st'))
    (hp : Post (Ly.top ly) G st w r st' o a next Q) : o.wp P a w next Q := by
  unfold normOp at hn
  rw [ho] at hn
  simp only at hn
  split at hn
  · rename_i p hy
    injection hn with hn; subst hn
    simp only [AOp.run] at hrun
    split at hrun
    · rename_i xs hx
      split at hrun
      · rename_i x hxi
        obtain ⟨rfl, rfl⟩ := val_inj hrun
        have e1 := ev_rel he hy hx
        generalize hv : a.eval y = v at e1
        cases e1 with
        | tup vs _ hl hr =>
          have hi : i < vs.size := by have := (List.getElem?_eq_some_iff.1 hxi).1; omega
          refine wp_yields hp (s := Instr.extract (a.eval y) i) (by unfold execOp; rw [ho]) (.same (v := vs[i]) ?_ (hr i vs[i] x (by simp [hi]) hxi) inv)
          rw [hv]
          simp [Instr.extract, hi]
      · cases hrun
    · cases hrun
  · cases hn

theorem doApp_ret {sz bytes : Nat} {mt : Bool} {x y : AV} {p : PD} (h : doApp sz bytes mt st x y = some (.pan p, st')) : False := by
  unfold doApp val at h
  split at h
  · split at h
    · simp at h
    · split at h
      · split at h
        · simp at h
        · split at h <;> simp at h
        · split at h
          · split at h <;> simp at h
          · simp at h
        · simp at h
      · simp at h
  · simp at h

theorem fold_run (mx : Bool) (f : Value → Value → Sem Value) (hf : ∀ k x y, (f (.int k x) (.int k y)).run P w = .ok (.int k (if mx then (if y > x then y else x) else (if y < x then y else x))) w) {k : IntKind} :
    ∀ (vs : List Value) (x0 : Int) (xs : List AV) (m : Int), vs.length = xs.length → (∀ (j : Nat) (v : Value) (y : AV), vs[j]? = some v → xs[j]? = some y → RelV G st v y) → foldMM mx k x0 xs = some m →
    (vs.foldlM f (.int k x0)).run P w = .ok (.int k m) w
  | [], x0, [], m, _, _, h => by
    simp only [foldMM, Option.some.injEq] at h; subst h
    rfl
  | v :: vs, x0, y :: xs, m, hl, hr, h => by
    have h1 := hr 0 v y rfl rfl
    unfold foldMM at h
    split at h
    · rename_i hh; cases hh
    · rename_i k' b r hh
      injection hh with hh1 hh2; subst hh1; subst hh2
      split at h
      · rename_i hk
        subst hk
        have hv := h1.int_inv
        subst hv
        simp only [List.foldlM_cons, Sem.run_bind, hf, Result.andThen_ok]
        exact fold_run mx f hf vs _ _ m (by simpa using hl) (fun j v y hv hy => hr (j + 1) v y (by simpa using hv) (by simpa using hy)) h
      · cases h
    · cases h
  | [], _, _ :: _, _, h, _, _ => by simp at h
  | _ :: _, _, [], _, h, _, _ => by simp at h

theorem min_run {ts : Array TypeId} {ty : TypeId} {args : Array Value} {k : IntKind} (vs : List Value) (x0 : Int) (xs : List AV) (m : Int) (hl : (AV.pd (.int k x0) :: xs).length = vs.length) (hr : ∀ (j : Nat) (v : Value) (y : AV), vs[j]? = some v → (AV.pd (.int k x0) :: xs)[j]? = some y → RelV G st v y) (h : foldMM false k x0 xs = some m)
    (ha : args.toList = vs := by rfl) : (Builtin.min_ ts ty args).run P w = .ok (.int k m) w := by
  cases vs with
  | nil => simp at hl
  | cons v vs =>
    have hv := (hr 0 v _ rfl rfl).int_inv
    subst hv
    unfold Builtin.min_
    simp only [ha]
    exact fold_run false Builtin.min2 (fun k x y => rfl) vs x0 xs m (by simpa using hl.symm) (fun j v y hv hy => hr (j + 1) v y (by simpa using hv) (by simpa using hy)) h

theorem max_run {ts : Array TypeId} {ty : TypeId} {args : Array Value} {k : IntKind} (vs : List Value) (x0 : Int) (xs : List AV) (m : Int) (hl : (AV.pd (.int k x0) :: xs).length = vs.length) (hr : ∀ (j : Nat) (v : Value) (y : AV), vs[j]? = some v → (AV.pd (.int k x0) :: xs)[j]? = some y → RelV G st v y) (h : foldMM true k x0 xs = some m)
    (ha : args.toList = vs := by rfl) : (Builtin.max_ ts ty args).run P w = .ok (.int k m) w := by
  cases vs with
  | nil => simp at hl
  | cons v vs =>
    have hv := (hr 0 v _ rfl rfl).int_inv
    subst hv
    unfold Builtin.max_
    simp only [ha]
    exact fold_run true Builtin.max2 (fun k x y => rfl) vs x0 xs m (by simpa using hl.symm) (fun j v y hv hy => hr (j + 1) v y (by simpa using hv) (by simpa using hy)) h

theorem s_call {c : Call} (hcall : CallOK P call) (hplain : CallPlain P call) (he : EnvRel G st a ly) (inv : Inv G st w) (htm : Ly.top ly ≤ st.length) (ho : o.op = .call c) (hn : normOp P ad br o = some ao) (hrun : ao.run call ly st = some (r, st'))
    (hp : Post (Ly.top ly) G st w r st' o a next Q) : o.wp P a w next Q := by
  unfold normOp at hn
  rw [ho] at hn
  simp only at hn
  -- what is handed over
  have args : ∀ (ps : List Opd) (xs : List AV) (os : Array Operand), opds os.toList = some ps → evL ly ps = some xs → ∃ G1, Inv G1 (frzA st xs) w ∧ Ext (Ly.top ly) G st w G1 (frzA st xs) w ∧ (os.map a.eval).size = (xs.map (firm (frzA st xs))).length ∧
      ∀ (k : Nat) (v : Value) (x : AV), (os.map a.eval)[k]? = some v → (xs.map (firm (frzA st xs)))[k]? = some x → RelV G1 (frzA st xs) v x := by
    intro ps xs os hps hxs
    obtain ⟨G1, i1, x1⟩ := frzA_ok (tm := Ly.top ly) xs inv
    obtain ⟨l1, r1⟩ := evL_rel he _ _ _ hps hxs
    refine ⟨G1, i1, x1, by simp at l1 ⊢; omega, fun k v x hv hx => ?_⟩
    simp only [List.getElem?_map, Option.map_eq_some_iff] at hx
    obtain ⟨x0, hx0, rfl⟩ := hx
    exact firm_rel i1 ((r1 k v x0 (by rw [List.getElem?_map, Array.getElem?_toList]; simpa using hv) hx0).ext x1)
  split at hn
  · -- built in
    rename_i b hb
    have hop : execOp a.eval o = builtin b c.argTypes o.type (c.args.map fun | .const _ => true | _ => false) (c.args.map a.eval) := by
      unfold execOp; rw [ho]; simp only [resolve, hb]; rfl
    unfold normB at hn
    split at hn
    · rename_i y t hargs hts
      have ha2 : c.args = #[y] := by rw [← Array.toList_inj]; simpa using hargs
      have ht2 : c.argTypes = #[t] := by rw [← Array.toList_inj]; simpa using hts
      rw [ha2, ht2] at hop
      have hop' : execOp a.eval o = (do pure (Next.value (← Builtin.len_ #[t] o.type #[a.eval y]))) := by
        rw [hop]; simp only [builtin, List.map_toArray, List.map_cons, List.map_nil]
      split at hn
      · rename_i p hy hu
        injection hn with hn; subst hn
        simp only [AOp.run] at hrun
        split at hrun
        · rename_i s hx
          obtain ⟨rfl, rfl⟩ := val_inj hrun
          have hv := (ev_rel he hy hx).str_inv
          refine wp_yields hp hop' (.same (v := .int .i64 s.length) ?_ (.ofInt _ _) inv)
          rw [hv]
          have hsz : (⟨s.toArray⟩ : ByteArray).size = s.length := by simp [ByteArray.size]
          unfold Builtin.len_
          simp only [List.getElem?_toArray, List.getElem?_cons_zero, Sem.run_bind, run_underlying hu, Result.andThen_ok, hsz]
          rfl
        · cases hrun
      · rename_i p e hy hu
        injection hn with hn; subst hn
        simp only [AOp.run] at hrun
        split at hrun
        · rename_i x hx
          split at hrun
          · rename_i xs hxs
            obtain ⟨rfl, rfl⟩ := val_inj hrun
            obtain ⟨ad', cap, hv, _, _⟩ := slAt_len inv (ev_rel he hy hx) hxs
            refine wp_yields hp hop' (.same (v := .int .i64 xs.length) ?_ (.ofInt _ _) inv)
            rw [hv]
            unfold Builtin.len_
            simp only [List.getElem?_toArray, List.getElem?_cons_zero, Sem.run_bind, run_underlying hu, Result.andThen_ok]
            rfl
          · cases hrun
        · cases hrun
      · cases hn
    · rename_i y z t u hargs hts
      have ha2 : c.args = #[y, z] := by rw [← Array.toList_inj]; simpa using hargs
      have ht2 : c.argTypes = #[t, u] := by rw [← Array.toList_inj]; simpa using hts
      rw [ha2, ht2] at hop
      have hop' : execOp a.eval o = (do pure (Next.value (← Builtin.append_ #[t, u] o.type #[a.eval y, a.eval z]))) := by
        rw [hop]; simp only [builtin, List.map_toArray, List.map_cons, List.map_nil]
      split at hn
      · rename_i p q e d hy hz hu hd
        split at hn
        · rename_i i zs hi hzs
          split at hn
          · rename_i hk
            injection hn with hn; subst hn
            obtain ⟨T⟩ := appT_of hu hd hk hi hzs
            simp only [AOp.run] at hrun
            split at hrun
            · rename_i x1 x2 hx1 hx2
              cases r with
              | pan p =>
                exfalso
                exact doApp_ret hrun
              | ret x => exact wp_yields hp hop' (app_sound T inv htm (ev_rel he hy hx1) (ev_rel he hz hx2) hrun)
            · cases hrun
          · cases hn
        · cases hn
      · cases hn
    · -- the least
      rename_i xs0 ts0
      split at hn
      · rename_i ps hps
        injection hn with hn; subst hn
        have hop' : execOp a.eval o = (do pure (Next.value (← Builtin.min_ c.argTypes o.type (c.args.map a.eval)))) := hop
        simp only [AOp.run] at hrun
        split at hrun
        · rename_i k x0 xs hxs
          split at hrun
          · rename_i m hm
            obtain ⟨rfl, rfl⟩ := val_inj hrun
            refine wp_yields hp hop' (.same (v := .int k m) ?_ (.ofInt _ _) inv)
            obtain ⟨l1, r1⟩ := evL_rel he _ _ _ hps hxs
            exact min_run (c.args.map a.eval).toList x0 xs m (by simpa using l1) (fun j v y hv hy => r1 j v y (by simpa using hv) hy) hm
          · cases hrun
        · cases hrun
      · cases hn
    · -- the greatest
      rename_i xs0 ts0
      split at hn
      · rename_i ps hps
        injection hn with hn; subst hn
        have hop' : execOp a.eval o = (do pure (Next.value (← Builtin.max_ c.argTypes o.type (c.args.map a.eval)))) := hop
        simp only [AOp.run] at hrun
        split at hrun
        · rename_i k x0 xs hxs
          split at hrun
          · rename_i m hm
            obtain ⟨rfl, rfl⟩ := val_inj hrun
            refine wp_yields hp hop' (.same (v := .int k m) ?_ (.ofInt _ _) inv)
            obtain ⟨l1, r1⟩ := evL_rel he _ _ _ hps hxs
            exact max_run (c.args.map a.eval).toList x0 xs m (by simpa using l1) (fun j v y hv hy => r1 j v y (by simpa using hv) hy) hm
          · cases hrun
        · cases hrun
      · cases hn
    · cases hn
  · rename_i f hf
    split at hn
    · rename_i hpl
      split at hn
      · rename_i ps hps
        have hs : ∀ w', (execOp a.eval o).run P w' = (callFunc f (c.args.map a.eval)).run P w' := by
          intro w'
          unfold execOp; rw [ho]
          simp only [resolve, hf, Sem.run_bind, Deferred.ofValue, Act.eval, Sem.run_pure, Result.andThen_ok, invoke]
          simp
        injection hn with hn
        cases br with
        | false =>
          simp only [Bool.false_eq_true, if_false] at hn
          subst hn
          simp only [AOp.run] at hrun
          split at hrun
          · rename_i xs hxs
            obtain ⟨G1, i1, x1, l1, r1⟩ := args ps xs c.args hps hxs
            exact wp_call (callIn_ok hcall) (hp.after x1) (hs w) hpl i1 (Nat.le_trans htm x1.len) l1 r1 hrun
          · cases hrun
        | true =>
          simp only [if_true] at hn
          subst hn
          simp only [AOp.run] at hrun
          split at hrun
          · rename_i xs hxs
            obtain ⟨l1, r1⟩ := evL_rel he _ _ _ hps hxs
            refine wp_call hcall hp (hs w) hpl inv htm (by simp at l1 ⊢; omega) (fun k v x hv hx => ?_) hrun
            simp only [List.getElem?_map, Option.map_eq_some_iff] at hx
            obtain ⟨x0, hx0, rfl⟩ := hx
            exact firm_rel inv (r1 k v x0 (by rw [List.getElem?_map, Array.getElem?_toList]; simpa using hv) hx0)
          · cases hrun
      · cases hn
    · split at hn
      · rename_i hib
        split at hn
        · rename_i p q hpq
          injection hn with hn; subst hn
          simp only [AOp.run] at hrun
          split at hrun
          · rename_i s cc hx hy
            obtain ⟨rfl, rfl⟩ := val_inj hrun
            obtain ⟨l1, r1⟩ := evL_rel he _ _ [.pd (.str s), .pd (.int .u8 cc)] hpq (by simp only [evL, hx, hy])
            have hargs : c.args.map a.eval = #[.string ⟨s.toArray⟩, .int .u8 cc] := by
              have h2 : (c.args.toList.map a.eval).length = 2 := by simpa using l1.symm
              match hm : c.args.toList.map a.eval, h2 with
              | [u, v], _ =>
                have e1 := (r1 0 u _ (by rw [hm]; rfl) rfl).pd_inv.str_inv
                have e2 := (r1 1 v _ (by rw [hm]; rfl) rfl).pd_inv.int_inv
                apply Array.toList_inj.1
                rw [Array.toList_map, hm, e1, e2]
            have hs0 : (execOp a.eval o).run P w = (callFunc f (c.args.map a.eval)).run P w := by
              unfold execOp; rw [ho]
              simp only [resolve, hf, Sem.run_bind, Deferred.ofValue, Act.eval, Sem.run_pure, Result.andThen_ok, invoke]
              simp
            obtain ⟨fn, hf0, hb, hn1, ho1⟩ := isIB_some hib
            unfold Oper.wp
            rw [hs0, run_callFunc_extern hf0 (by rw [hn1]; decide) hb (findNext_ib hn1 ho1) (find_ib hn1), hargs, run_indexByte_string, firstIdx_eq]
            exact hp.ret _ rfl _ G w (.ofInt _ _) inv (Ext.refl _ _ _ _)
          · cases hrun
        · cases hn
      · cases hn
  · rename_i v hne hv
    split at hn
    · rename_i p ps hp0 hps
      injection hn with hn; subst hn
      simp only [AOp.run] at hrun
      split at hrun
      · rename_i f xs hf hxs
        obtain ⟨G1, i1, x1, l1, r1⟩ := args ps xs c.args hps hxs
        have hfv := (ev_rel he hp0 hf).pd_inv.fn_inv
        have hs : (execOp a.eval o).run P w = (callFunc f (c.args.map a.eval)).run P w := by
          unfold execOp; rw [ho]
          simp only [resolve, hv, Sem.run_bind, Deferred.ofValue, hfv, Sem.run_pure, Result.andThen_ok, invoke]
          simp
        exact wp_call (callIn_ok hcall) (hp.after x1) hs (callIn_plain hplain _ _ _ _ hrun) i1 (Nat.le_trans htm x1.len) l1 r1 hrun
      · rename_i f fs cs xs hf hxs
        obtain ⟨G1, i1, x1, l1, r1⟩ := args ps xs c.args hps hxs
        have hfr := ev_rel he hp0 hf
        generalize hvv : a.eval v = fv at hfr
        cases hfr with
        | clo _ us vs _ _ hk hl hq hr =>
          have hs : (execOp a.eval o).run P w = (callFunc f (us ++ c.args.map a.eval ++ vs)).run P w := by
            unfold execOp; rw [ho]
            simp only [resolve, hv, Sem.run_bind, Deferred.ofValue, hvv, Sem.run_pure, Result.andThen_ok, invoke]
          refine wp_call (callIn_ok hcall) (hp.after x1) hs (callIn_plain hplain _ _ _ _ hrun) i1 (Nat.le_trans htm x1.len) (by simp at l1 ⊢; omega) (fun k u x hu hx => ?_) hrun
          rw [List.append_assoc] at hx
          by_cases h1 : k < us.size
          · rw [Array.append_assoc, Array.getElem?_append_left h1] at hu
            rw [List.getElem?_append_left (by omega)] at hx
            exact (hq k u x hu hx).ext x1
          · rw [Array.append_assoc, Array.getElem?_append_right (by omega)] at hu
            rw [List.getElem?_append_right (by omega)] at hx
            by_cases h2 : k - us.size < (c.args.map a.eval).size
            · rw [Array.getElem?_append_left h2] at hu
              rw [List.getElem?_append_left (by omega)] at hx
              exact r1 _ u x hu (by rw [← hx]; congr 1; omega)
            · rw [Array.getElem?_append_right (by omega)] at hu
              rw [List.getElem?_append_right (by omega)] at hx
              exact (hr _ u x hu (by rw [← hx]; congr 1; omega)).ext x1
      · cases hrun
    · cases hn
  · cases hn

theorem s_panic {y : Operand} (he : EnvRel G st a ly) (inv : Inv G st w) (ho : o.op = .panic y) (hn : normOp P ad br o = some ao) (hrun : ao.run call ly st = some (r, st'))
    (hp : Post (Ly.top ly) G st w r st' o a next Q) : o.wp P a w next Q := by
  unfold normOp at hn
  rw [ho] at hn
  simp only at hn
  split at hn
  · rename_i p hy
    injection hn with hn; subst hn
    simp only [AOp.run] at hrun
    split at hrun
    · rename_i t q hx
      simp only [Option.some.injEq, Prod.mk.injEq] at hrun
      obtain ⟨rfl, rfl⟩ := hrun
      have h1 := (ev_rel he hy hx).pd_inv
      obtain ⟨v, hv, _⟩ := h1.ifc_inv
      unfold Oper.wp execOp
      rw [ho]
      simp only [hv, Instr.panic, Sem.run_bind, run_goPanic, Result.andThen_halt]
      rw [hv] at h1
      exact hp.pan _ rfl _ G w h1 inv (Ext.refl _ _ _ _)
    · cases hrun
  · cases hn

/-- Each of the machine's operations does what the model's does. -/
theorem op_sound (hcall : CallOK P call) (hplain : CallPlain P call) (he : EnvRel G st a ly) (inv : Inv G st w) (htm : Ly.top ly ≤ st.length) (hn : normOp P ad br o = some ao) (hrun : ao.run call ly st = some (r, st'))
    (hp : Post (Ly.top ly) G st w r st' o a next Q) : o.wp P a w next Q := by
  have hn0 := hn
  cases ho : o.op with
  | move x =>
    unfold normOp at hn
    rw [ho] at hn
    simp only at hn
    split at hn
    · rename_i q hq
      injection hn with hn; subst hn
      exact s_mov he inv (by unfold execOp; rw [ho]) hq hrun hp
    · cases hn
  | assign x => exact s_assign he inv htm ho hn hrun hp
  | pick c x y => exact s_pick he inv ho hn hrun hp
  | alloc t => exact s_alloc inv htm ho hn hrun hp
  | box t x => exact s_box he inv htm ho hn hrun hp
  | build t ps => exact s_build he inv ho hn hrun hp
  | buildSlice t n ps => exact s_bsl he inv htm ho hn hrun hp
  | load t x => exact s_load he inv ho hn hrun hp
  | store t x y => exact s_store he inv ho hn hrun hp
  | nilCheck x => exact s_nilck he inv ho hn hrun hp
  | binOp op t x y u => exact s_bin he inv ho hn hrun hp
  | unOp op t x => exact s_un he inv ho hn hrun hp
  | convert s d x => exact s_conv he inv htm ho hn hrun hp
  | makeInterface t x => exact s_mkif he inv ho hn hrun hp
  | makeFunc fn fs cs =>
    cases fn with
    | func f => exact s_mkfn he inv ho hn hrun hp
    | _ => unfold normOp at hn; rw [ho] at hn; simp at hn
  | makeSlice t l c => exact s_mksl he inv htm ho hn hrun hp
  | slice t x lo hi mx => exact s_slice he inv ho hn hrun hp
  | fieldAddr t x i => exact s_fieldAddr he inv ho hn hrun hp
  | field t x i => exact s_field he inv ho hn hrun hp
  | indexAddr t x i => exact s_indexAddr he inv ho hn hrun hp
  | index t x i => exact s_index he inv ho hn hrun hp
  | range t x => exact s_range he inv htm ho hn hrun hp
  | next x b => exact s_next he inv ho hn hrun hp
  | typeAssert x xt t ok => exact s_tass he inv ho hn hrun hp
  | extract x i => exact s_ext he inv ho hn hrun hp
  | call c => exact s_call hcall hplain he inv htm ho hn hrun hp
  | panic x => exact s_panic he inv ho hn hrun hp
  | _ => unfold normOp at hn; rw [ho] at hn; simp at hn
end
end Go.Proofs.Kh
