/- Each of the machine's operations does what the model's does: places, slices, texts. -/
import Derived.Test.YtgnmblegndbflaaGreatDoorKhT
namespace Go.Proofs.Kh
set_option linter.all false
set_option linter.unusedVariables false
set_option linter.unusedSimpArgs false
open Go
section
variable {P : Program} {G : Gh} {st : St} {w : World} {o : Oper} {a : Act} {next : Act → World → Prop} {Q : Exit → Act → World → Prop} {call : CallF} {ly : Ly} {ad : List (Nat × Nat × Bool)} {br : Bool} {ao : AOp} {r : ARes} {st' : St}

theorem s_conv {src dst : TypeId} {y : Operand} (he : EnvRel G st a ly) (inv : Inv G st w) (htm : Ly.top ly ≤ st.length) (ho : o.op = .convert src dst y) (hn : normOp P ad br o = some ao) (hrun : ao.run call ly st = some (r, st'))
    (hp : Post (Ly.top ly) G st w r st' o a next Q) : o.wp P a w next Q := by
  have hop : execOp a.eval o = (do pure (Next.value (← convert src dst (a.eval y)))) := by unfold execOp; rw [ho]
  unfold normOp at hn
  rw [ho] at hn
  simp only at hn
  split at hn
  · rename_i k0 k p h1 h2 hy
    injection hn with hn; subst hn
    simp only [AOp.run] at hrun
    split at hrun <;> first | (cases hrun; done) | skip
    all_goals first
      | (rename_i hkk _; cases hkk; done)
      | skip
    rename_i k2 k3 n hkk hx
    injection hkk with hkk; subst hkk
    obtain ⟨rfl, rfl⟩ := val_inj hrun
    have := (ev_rel he hy hx).int_inv
    refine wp_yields hp hop (.same (v := .int k (k.wrap n)) ?_ (.ofInt _ _) inv)
    rw [this]
    simp only [convert, Sem.run_bind, run_underlying h1, run_underlying h2, Result.andThen_ok]
    rfl
  · rename_i k0 p h1 h2 hy
    injection hn with hn; subst hn
    simp only [AOp.run] at hrun
    split at hrun <;> first | (cases hrun; done) | skip
    all_goals first
      | (rename_i hkk _; cases hkk; done)
      | skip
    rename_i k3 n hkk hx
    obtain ⟨rfl, rfl⟩ := val_inj hrun
    have := (ev_rel he hy hx).int_inv
    refine wp_yields hp hop (.same (v := .string (Utf8.encode n)) ?_ ?_ inv)
    · rw [this]
      simp only [convert, Sem.run_bind, run_underlying h1, run_underlying h2, Result.andThen_ok]
      rfl
    · have := RelV.ofStr (G := G) (st := st) (Utf8.encode n).toList
      rw [ByteArray.toList_eq, ba_eq] at this
      rw [ByteArray.toList_eq]
      exact this
  · rename_i p h1 h2 hy
    injection hn with hn; subst hn
    simp only [AOp.run] at hrun
    split at hrun <;> first | (cases hrun; done) | skip
    all_goals first
      | (rename_i hkk _; cases hkk; done)
      | skip
    rename_i s hkk hx
    obtain ⟨rfl, rfl⟩ := val_inj hrun
    have := (ev_rel he hy hx).str_inv
    refine wp_yields hp hop (.same (v := .string ⟨s.toArray⟩) ?_ (.ofStr _) inv)
    rw [this]
    simp only [convert, Sem.run_bind, run_underlying h1, run_underlying h2, Result.andThen_ok, Sem.run_pure]
  · rename_i e p h1 h2 hy
    split at hn
    · rename_i h3
      split at hn
      · injection hn with hn; subst hn
        simp only [AOp.run] at hrun
        split at hrun <;> first | (cases hrun; done) | skip
        all_goals first
          | (rename_i hkk _; cases hkk; done)
          | skip
        rename_i s hkk hx
        split at hrun
        · rename_i hmax
          obtain ⟨rfl, rfl⟩ := val_inj hrun
          exact wp_yields hp hop (bytes_sound inv htm h1 h2 h3 (ev_rel he hy hx) hmax)
        · cases hrun
      · cases hn
    · cases hn
  · rename_i e p h1 h2 hy
    split at hn
    · rename_i h3
      injection hn with hn; subst hn
      simp only [AOp.run] at hrun
      split at hrun <;> first | (cases hrun; done) | skip
      all_goals first
        | (rename_i hkk _; cases hkk; done)
        | skip
      rename_i x hkk hx
      split at hrun
      · rename_i xs hxs
        split at hrun
        · rename_i bs hbs
          obtain ⟨rfl, rfl⟩ := val_inj hrun
          exact wp_yields hp hop (str_sound inv h1 h2 h3 (ev_rel he hy hx) hxs hbs)
        · cases hrun
      · cases hrun
    · cases hn
  · cases hn

theorem s_mkif {t : TypeId} {y : Operand} (he : EnvRel G st a ly) (inv : Inv G st w) (ho : o.op = .makeInterface t y) (hn : normOp P ad br o = some ao) (hrun : ao.run call ly st = some (r, st'))
    (hp : Post (Ly.top ly) G st w r st' o a next Q) : o.wp P a w next Q := by
  unfold normOp at hn
  rw [ho] at hn
  simp only at hn
  split at hn
  · cases hn
  · rename_i d p hni hd hy
    injection hn with hn; subst hn
    simp only [AOp.run] at hrun
    split at hrun
    · rename_i x hx
      split at hrun
      · rename_i q hq
        obtain ⟨rfl, rfl⟩ := val_inj hrun
        obtain ⟨G1, i1, x1⟩ := frz_ok (tm := Ly.top ly) inv x
        refine wp_yields (hp.after x1) (s := Instr.makeInterface t (a.eval y)) (by unfold execOp; rw [ho]) (.same (v := .iface t (a.eval y)) ?_ (.pd _ _ (.ifc t _ _ (toPD_rel i1 ((ev_rel he hy hx).ext x1) hq))) i1)
        unfold Instr.makeInterface
        simp only [Sem.run_bind, run_underlying hd, Result.andThen_ok]
        cases d <;> first | rfl | (exact (hni _ rfl).elim)
      · cases hrun
    · cases hrun
  · cases hn

theorem s_mkfn {f : FuncId} {fs cs : Array Operand} (he : EnvRel G st a ly) (inv : Inv G st w) (ho : o.op = .makeFunc (.func f) fs cs) (hn : normOp P ad br o = some ao) (hrun : ao.run call ly st = some (r, st'))
    (hp : Post (Ly.top ly) G st w r st' o a next Q) : o.wp P a w next Q := by
  unfold normOp at hn
  rw [ho] at hn
  simp only at hn
  split at hn
  · rename_i ps qs hps hqs
    injection hn with hn; subst hn
    simp only [AOp.run] at hrun
    split at hrun
    · rename_i xs ys hxs hys
      obtain ⟨rfl, rfl⟩ := val_inj hrun
      obtain ⟨l1, r1⟩ := evL_rel he _ _ _ hps hxs
      obtain ⟨l2, r2⟩ := evL_rel he _ _ _ hqs hys
      refine wp_yields hp (s := Instr.makeFunc (.func f) (fs.map a.eval) (cs.map a.eval)) (by unfold execOp; rw [ho]) (.same (v := .func (.func f) (fs.map a.eval) (cs.map a.eval)) rfl ?_ inv)
      have hc : RelV G st (.func (.func f) (fs.map a.eval) (cs.map a.eval)) (.clo f xs ys) := by
        refine .clo f _ _ _ _ (by simp at l1 ⊢; omega) (by simp at l2 ⊢; omega) (fun k v c hv hc => r1 k v c ?_ hc) (fun k v c hv hc => r2 k v c ?_ hc)
        · rw [List.getElem?_map, Array.getElem?_toList]; simpa using hv
        · rw [List.getElem?_map, Array.getElem?_toList]; simpa using hv
      split
      · have e1 : fs.map a.eval = #[] := by simp at l1 ⊢; simpa using l1.symm
        have e2 : cs.map a.eval = #[] := by simp at l2 ⊢; simpa using l2.symm
        rw [e1, e2]
        exact .pd _ _ (.fn f)
      · exact hc
    · cases hrun
  · cases hn

theorem s_mksl {t : TypeId} {y c : Operand} (he : EnvRel G st a ly) (inv : Inv G st w) (htm : Ly.top ly ≤ st.length) (ho : o.op = .makeSlice t y c) (hn : normOp P ad br o = some ao) (hrun : ao.run call ly st = some (r, st'))
    (hp : Post (Ly.top ly) G st w r st' o a next Q) : o.wp P a w next Q := by
  unfold normOp at hn
  rw [ho] at hn
  simp only at hn
  split at hn
  · rename_i e p ht hy
    split at hn
    · rename_i i zs z hi hz hzp
      split at hn
      · rename_i hsame
        injection hn with hn; subst hn
        simp only [AOp.run] at hrun
        split at hrun
        · rename_i k n hx
          split at hrun
          · rename_i hc
            obtain ⟨rfl, h0, hb, h63, hzl, hzs⟩ := hc
            obtain ⟨rfl, rfl⟩ := val_inj hrun
            have hv := (ev_rel he hy hx).int_inv
            have hv2 : a.eval c = .int .i64 n := by
              unfold sameOpd at hsame
              split at hsame
              · simp only [beq_iff_eq] at hsame; subst hsame; exact hv
              · simp only [Bool.and_eq_true, beq_iff_eq] at hsame
                obtain ⟨rfl, rfl⟩ := hsame; exact hv
              · cases hsame
            obtain ⟨i', zv, z1, z2, z3, z4⟩ := zeroOf_some hz
            rw [hi] at z1; injection z1 with z1; subst z1
            obtain ⟨e1, e2, e3⟩ := pdVs_rel G.M _ _ z3
            have hzc : zv.cells.size = i.size := by simp at e1; omega
            have hzcells : z.cells = zs := by
              unfold zeroPD at hzp
              rw [hi] at hzp
              simp only [z2] at hzp
              split at hzp
              · rename_i cs hcs
                injection hcs with hcs; subst hcs
                split at hzp
                · rename_i ps hps
                  injection hzp with hzp; subst hzp
                  simp only [Value.cells] at z3
                  rw [z3] at hps; injection hps with hps
                  exact hps.symm
                · cases hzp
              · rename_i v hna hvv
                injection hvv with hvv; subst hvv
                have hs1 := (pdV_rel (fun _ _ => none) hzp).2
                have hone : oneCell zv = true := (pdV_rel (fun _ _ => none) hzp).1.oneCell hs1
                rw [oneCell_cells hone] at z3
                simp only [pdVs, hzp, Option.some.injEq] at z3
                rw [← z3]
                cases z <;> first | rfl | (simp [PD.single] at hs1)
              · cases hzp
            obtain ⟨cells, hcells⟩ : ∃ cells : Array Value, cells = (Array.range (n.toNat * i.size)).map (fun j => (if n.toNat * i.size = 0 then #[] else zv.cells)[j % (if n.toNat * i.size = 0 then #[] else zv.cells).size]!) := ⟨_, rfl⟩
            have hcs : cells.size = n.toNat * i.size := by rw [hcells]; simp
            have hget : ∀ (k : Nat) (v : Value), cells[k]? = some v → ∃ hk : k < n.toNat * i.size, zv.cells[k % i.size]? = some v := by
              intro k v hv
              have hk : k < n.toNat * i.size := by rw [← hcs]; exact (Array.getElem?_eq_some_iff.1 hv).1
              have h0' : ¬ n.toNat * i.size = 0 := by omega
              rw [hcells] at hv
              simp only [if_neg h0', Array.getElem?_map, Option.map_eq_some_iff] at hv
              obtain ⟨j, hj, hv⟩ := hv
              have : j = k := by
                have := Array.getElem?_eq_some_iff.1 hj
                obtain ⟨q1, q2⟩ := this
                simpa using q2.symm
              subst this
              have hp0 : 0 < i.size := by
                rcases Nat.eq_zero_or_pos i.size with h | h
                · rw [h] at hk; omega
                · exact h
              have hm := Nat.mod_lt j hp0
              rw [hzc] at hv
              refine ⟨hk, ?_⟩
              rw [← hv]
              have : j % i.size < zv.cells.size := by omega
              simp [this]
            have hwid : ∀ x, x ∈ List.replicate n.toNat z → x.cells.length = i.size := fun x hx => by
              rw [List.eq_of_mem_replicate hx]; exact hzl
            obtain ⟨G2, i2, x2, r2⟩ := push_row (tm := Ly.top ly) inv htm (alloc_oneMore w (.cells cells e)) (mt := true) (sz := i.size) (cap := n.toNat) (xs := List.replicate n.toNat z) (fun _ _ h => by omega) hcs (by simp) (by unfold maxLen; omega) hwid
              (fun c hc => by
                simp only [flat, List.mem_flatMap] at hc
                obtain ⟨x, hx, hc⟩ := hc
                rw [List.eq_of_mem_replicate hx] at hc
                exact List.all_eq_true.1 hzs c hc)
              (fun k v hv => by
                obtain ⟨_, h⟩ := hget k v hv
                exact pdVs_one (M := G.M) z3 _ v (by simpa using h))
              (fun k v c hv hc => by
                obtain ⟨hk, h⟩ := hget k v hv
                have hp0 : 0 < i.size := by
                  rcases Nat.eq_zero_or_pos i.size with h | h
                  · rw [h] at hk; omega
                  · exact h
                have hq : k / i.size < n.toNat := by rw [Nat.div_lt_iff_lt_mul hp0]; exact hk
                have hf := flat_at (List.replicate n.toNat z) hwid (k / i.size) z (by simp [hq]) (k % i.size) (Nat.mod_lt _ hp0)
                have hkk : (k / i.size) * i.size + k % i.size = k := by rw [Nat.mul_comm]; exact Nat.div_add_mod k i.size
                rw [hkk, hc, hzcells] at hf
                exact e3 (k % i.size) v c (by simpa using h) hf.symm)
            rw [List.length_replicate] at r2
            refine wp_yields hp (s := Instr.makeSlice t (a.eval y) (a.eval c)) (by unfold execOp; rw [ho]) ⟨_, G2, _, ?_, r2, i2, x2⟩
            rw [hv, hv2]
            have hwr : IntKind.i64.wrap n = n := by
              unfold IntKind.wrap
              have : IntKind.bits .i64 = 64 := rfl
              simp only [this, IntKind.signed, Bool.true_and]
              have h2 : n % (2 ^ 64 : Int) = n := Int.emod_eq_of_lt h0 (by omega)
              rw [h2, if_neg (by simp; omega)]
            unfold Instr.makeSlice
            simp only [Sem.run_bind, run_underlying ht, Result.andThen_ok, asInt, asIntOf, Sem.run_pure, typeInfo, hi, run_program, hwr]
            have hbb : ¬ ((i.bytes : Int) * n > 2 ^ 48) := by
              rw [Int.mul_comm]; omega
            rw [if_neg (by simp; omega)]
            simp only [Sem.run_bind, run_askRoom, run_info hi, Result.andThen_ok]
            by_cases hz0 : n.toNat * i.size = 0
            · rw [if_pos hz0]
              simp only [if_pos hz0] at hcells
              simp only [Sem.run_bind, Sem.run_pure, Result.andThen_ok, run_newRow, ← hcells]
            · rw [if_neg hz0]
              simp only [if_neg hz0] at hcells
              simp only [Sem.run_bind, run_zero hi z2, Sem.run_pure, Result.andThen_ok, run_newRow, ← hcells]
          · cases hrun
        · cases hrun
      · cases hn
    · cases hn
  · cases hn
end
end Go.Proofs.Kh
