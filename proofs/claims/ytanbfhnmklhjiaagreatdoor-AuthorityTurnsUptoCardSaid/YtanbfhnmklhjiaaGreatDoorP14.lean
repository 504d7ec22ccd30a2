/- Part of a proof about this program; no condition of its own. -/
import Derived.Test.YtanbfhnmklhjiaaGreatDoorP13
set_option linter.all false
/-
  The rule that reckons is sound, operation by operation. No condition.
-/
namespace Go.Ax
open Go Go.RowKit
section
variable {P : Program} {pm : Pm} {h : List LB} {o : Oper} {ρ : Operand → AV} {k : AV → Prop}
variable {dst : Option Tmp} {ty : TypeId} {p : String} {af : Array Edge} {gd : Option (Nat × Bool)}
theorem wrap_neg (kd : IntKind) (m : Int) (h : inK kd (-m)) : kd.wrap (0 - m) = -m := by
  rw [Int.zero_sub]; exact inK_wrap h
theorem vun_ok {op : UnOp} {t : TypeId} {x : Operand} (hh : vun op (ρ x) k) : CallE P pm h ⟨dst, .unOp op t x, ty, p, af, gd⟩ ρ k := by
  unfold vun at hh
  split at hh
  · next kd m h1 => exact .mk (Still.qt (s_neg _ _ h1 (wrap_neg _ _ hh.1))) hh.2
  · next b h1 => exact .mk (Still.qt (s_not _ _ h1)) hh
  · exact hh.elim
theorem vpick_ok {c x y : Operand} (hh : vpick (ρ c) (ρ x) (ρ y) k) : CallE P pm h ⟨dst, .pick c x y, ty, p, af, gd⟩ ρ k := by
  unfold vpick at hh
  split at hh
  · next b h1 =>
    cases b with
    | true => exact .mk (Still.qt (s_pick_t _ _ _ h1)) hh
    | false => exact .mk (Still.qt (s_pick_f _ _ _ h1)) hh
  · exact hh.elim
theorem vconv_ok {s d : TypeId} {x : Operand} (hh : vconv P s d (ρ x) k) : CallE P pm h ⟨dst, .convert s d x, ty, p, af, gd⟩ ρ k := by
  unfold vconv at hh
  split at hh
  · next a b c m e1 e2 e3 => exact .mk (Still.qt (s_conv _ _ _ e3 ⟨_, intT_some e1⟩ (intT_some e2) (inK_wrap hh.1))) hh.2
  · next l e1 e2 e3 => exact .mk (q_bytes e3 hh.1 hh.2.1 hh.2.2.1) hh.2.2.2
  · next a b m e1 e2 e3 => exact .mk (Still.qt (q_rune e3 (by rw [intT_some e1]; rfl) hh.1)) hh.2
  · exact hh.elim
theorem vload_ok {t : TypeId} {x : Operand} (hh : vload P h t (ρ x) k) : CallE P pm h ⟨dst, .load t x, ty, p, af, gd⟩ ρ k := by
  unfold vload at hh
  split at hh
  · next hl =>
    unfold vcells at hh
    split at hh
    · next cs hx =>
      obtain ⟨h0, hk⟩ := hh
      have hd : cs.map C.d = (cs.map C.d)[0] :: (cs.map C.d).drop 1 := by
        have := List.drop_eq_getElem_cons h0
        rwa [List.drop_zero] at this
      exact .mk (Still.qt (s_load1 _ _ hl (by rw [hx]; simp only [cellsAt]; rw [← hd]))) hk
    · next i off hx =>
      split at hh
      · next tb cs hi =>
        obtain ⟨h0, hk⟩ := hh
        exact .mk (Still.qt (s_load1 _ _ hl (by rw [hx]; simp only [cellsAt, hi]; rw [List.drop_eq_getElem_cons h0]))) hk
      · exact hh.elim
    · next i ver sz kk off hx =>
      split at hh
      · next te sz' els v hi =>
        obtain ⟨⟨rfl, rfl⟩, hlt, h0, hk⟩ := hh
        have h0' : off < els[kk].length := by simpa using h0
        have e : (els[kk].map C.d)[off] = C.d els[kk][off] := by simp
        rw [e] at hk
        exact .mk (Still.qt (s_load1_row _ _ hl hx hi (List.getElem?_eq_getElem hlt) (List.drop_eq_getElem_cons h0'))) hk
      · next te sz' els kk' cs v hi =>
        obtain ⟨⟨rfl, rfl, rfl⟩, h0, hk⟩ := hh
        exact .mk (Still.qt (s_load1_opn _ _ hl hx hi (List.drop_eq_getElem_cons h0))) hk
      · exact hh.elim
    · exact hh.elim
  · next n hl =>
    unfold vcells at hh
    split at hh
    · next cs hx =>
      obtain ⟨h0, hk⟩ := hh
      exact .mk (Still.qt (s_loadN _ _ hl (by rw [hx]; rfl) (by omega))) (by rw [List.drop_zero] at hk; exact hk)
    · next i off hx =>
      split at hh
      · next tb cs hi =>
        obtain ⟨h0, hk⟩ := hh
        exact .mk (Still.qt (s_loadN _ _ hl (by rw [hx]; simp only [cellsAt, hi]) (by rw [List.length_drop]; omega))) hk
      · exact hh.elim
    · next i ver sz kk off hx =>
      split at hh
      · next te sz' els v hi =>
        obtain ⟨⟨rfl, rfl⟩, hlt, h0, hk⟩ := hh
        rw [List.length_map] at h0
        refine .mk (Still.qt (s_loadN_row _ _ hl hx hi (List.getElem?_eq_getElem hlt) h0)) ?_
        rw [List.map_take, List.map_drop]; exact hk
      · next te sz' els kk' cs v hi =>
        obtain ⟨⟨rfl, rfl, rfl⟩, h0, hk⟩ := hh
        exact .mk (Still.qt (s_loadN_opn _ _ hl hx hi h0)) hk
      · exact hh.elim
    · exact hh.elim
  · exact hh.elim
theorem vfield_ok {t : TypeId} {i : Nat} {x : Operand} (hh : vfield P h t i (ρ x) k) : CallE P pm h ⟨dst, .fieldAddr t x i, ty, p, af, gd⟩ ρ k := by
  unfold vfield at hh
  split at hh
  · next o ho =>
    split at hh
    · next hx => exact .mk (Still.qt (s_field_ptr _ _ _ ho hx)) hh
    · next hx => exact .mk (Still.qt (s_field_loc _ _ _ ho hx)) hh
    · next hx =>
      split at hh
      · next hi =>
        obtain ⟨⟨rfl, rfl⟩, hh⟩ := hh
        exact .mk (Still.qt (s_field_row _ _ _ ho hx hi)) hh
      · next hi =>
        obtain ⟨⟨rfl, rfl⟩, hh⟩ := hh
        exact .mk (Still.qt (s_field_opn _ _ _ ho hx hi)) hh
      · exact hh.elim
    · exact hh.elim
  · exact hh.elim
theorem s_index_sub (t : TypeId) (x y : Operand) {te e : TypeId} {sz sz' j ver lo n : Nat} {kd : IntKind} {i : Int} {els : List (List D)} (hs : slT P t = some (e, sz)) (hx : ρ x = .c (.sub j ver sz lo n)) (hj : h[j]? = some (.row te sz' els ver)) (hy : ρ y = .c (.d (.int kd i))) (hsz : sz' = sz) (hle : lo + n ≤ els.length) (h0 : 0 ≤ i) (h1 : i < n) :
    Still P h ⟨dst, .indexAddr t x y, ty, p, af, gd⟩ ρ (.c (.rowp j ver sz (lo + i.toNat) 0)) := by
  subst hsz
  intro cx G w a s ho
  have e2 := ar_int (hy ▸ ho y (by simp [Op.operands]))
  obtain ⟨v0, xs, hg, how, _, _, _⟩ := row_at s hj
  have hr := ho x (by simp [Op.operands])
  rw [hx] at hr
  obtain ⟨_, v0', n', hg', _, hxx⟩ := hr
  rw [hg] at hg'
  cases hg'
  obtain ⟨A, cap, e1, hc, hm, hA, _⟩ := hxx rfl
  obtain ⟨b, len0, cap0, rfl, rfl⟩ := hA (by omega)
  refine ⟨.pointer (some ⟨b, (lo + i.toNat) * sz', none⟩), ?_, rfl, _, _, hg, Nat.le_refl _, fun _ => ⟨b, len0, cap0, rfl, by simp⟩⟩
  have := run_indexAt (k := kd) (n := n) (cap := cap) (ad := ⟨b, lo * sz', none⟩) hs h0 h1 w
  rw [add_plain, ← Nat.add_mul] at this
  simp only [execOp, e1, e2, Sem.run_bind, this, Result.andThen_ok, Sem.run_pure]
theorem vindex_ok {t : TypeId} {x y : Operand} (hh : vindex P h t (ρ x) (ρ y) k) : CallE P pm h ⟨dst, .indexAddr t x y, ty, p, af, gd⟩ ρ k := by
  unfold vindex at hh
  split at hh
  · next kd i hy =>
    split at hh
    · next e sz hs =>
      split at hh
      · next hx =>
        obtain ⟨⟨rfl, h0⟩, hlt, hk⟩ := hh
        exact .mk (Still.qt (s_index _ _ _ hs (.inl hx) hy rfl h0 (List.getElem?_eq_getElem hlt))) hk
      · next hx =>
        obtain ⟨⟨rfl, h0⟩, hlt, hk⟩ := hh
        exact .mk (Still.qt (s_index _ _ _ hs (.inr hx) hy rfl h0 (List.getElem?_eq_getElem hlt))) hk
      · next hx =>
        split at hh
        · next hj =>
          obtain ⟨⟨rfl, rfl, h0, h1⟩, hk⟩ := hh
          exact .mk (Still.qt (s_index_own _ _ _ hs hx hj hy rfl h0 h1)) hk
        · exact hh.elim
      · next hx =>
        split at hh
        · next hj =>
          obtain ⟨⟨rfl, rfl, rfl, hle, h0, h1⟩, hk⟩ := hh
          exact .mk (Still.qt (s_index_sub _ _ _ hs hx hj hy rfl hle h0 h1)) hk
        · exact hh.elim
      · exact hh.elim
    · split at hh
      · next m e sz ha =>
        split at hh
        · next hx => exact .mk (Still.qt (s_index_box _ _ _ ha hx hy hh.1.1 hh.1.2)) hh.2
        · next hx => exact .mk (Still.qt (s_index_arr _ _ _ ha hx hy hh.1.1 hh.1.2)) hh.2
        · exact hh.elim
      · exact hh.elim
  · exact hh.elim
theorem run_partG {t : TypeId} (hl : ldT P t = some none) {cs : Array Value} {off : Nat} {v : Value} (hv : cs[off]? = some v) (w : World) : (part t cs off).run P w = .ok v w := by
  have : (isAgg t).run P w = .ok false w := by
    unfold ldT at hl
    split at hl
    · cases hi : P.info? t <;> simp [hi] at hl
    · cases hi : P.info? t <;> simp [hi] at hl
    · next q h1 h2 hq =>
      cases q <;> simp_all [isAgg, run_underlying hq]
    · cases hl
  simp [part, this, hv]
theorem vstr_ok {t : TypeId} {x y : Operand} (hh : vstr P t (ρ x) (ρ y) k) : CallE P pm h ⟨dst, .index t x y, ty, p, af, gd⟩ ρ k := by
  unfold vstr at hh
  split at hh
  · next cs kd i hx hy =>
    split at hh
    · next n hn =>
      obtain ⟨⟨h0, h1⟩, hlt, hk⟩ := hh
      refine .mk (r := .c cs[i.toNat]) (Still.qt ?_) hk
      unfold ixT at hn
      split at hn
      · next m e hu =>
        split at hn
        · next hc =>
          cases hn
          intro cx G w a s hop
          obtain ⟨vs, e1, hvs⟩ := (hx ▸ hop x (by simp [Op.operands]) : Ar G (.agg cs) (a.eval x))
          have e2 := ar_int (hy ▸ hop y (by simp [Op.operands]))
          obtain ⟨u, hu1, hr⟩ := hvs.get i.toNat cs[i.toNat] (List.getElem?_eq_getElem hlt)
          refine ⟨u, ?_, hr⟩
          have hsz := run_sizeOf' (P := P) hc.1 w
          have hp := run_partG (P := P) hc.2 (cs := vs.toArray) (off := i.toNat * 1) (v := u) (by simpa using hu1) w
          simp only [execOp, Instr.index, asIntOf, e1, e2, Sem.run_bind, Sem.run_pure, Result.andThen_ok, run_underlying hu, if_pos (And.intro h0 h1), hsz, hp]
        · cases hn
      · cases hn
    · exact hh.elim
  · next l kd i hx hy =>
    obtain ⟨hs, h0, hlt, hk⟩ := hh
    exact .mk (Still.qt (s_index_str _ _ _ hs hx hy h0 (List.getElem?_eq_getElem hlt))) hk
  · exact hh.elim
theorem vbd_ok {x : Option Operand} {d : Nat} {K : Nat → Prop} (hh : vbd (x.map ρ) d K) : ∃ n, optI ρ x d n ∧ K n := by
  cases x with
  | none => exact ⟨d, rfl, hh⟩
  | some x =>
    simp only [Option.map_some] at hh
    unfold vbd at hh
    split at hh
    · next e => cases e
    · next kd i e =>
      injection e with e
      exact ⟨_, ⟨_, _, e, hh.1, rfl⟩, hh.2⟩
    · exact hh.elim
theorem vslice_ok {t : TypeId} {x : Operand} {lo hi : Option Operand} (hh : vslice P h t (ρ x) (lo.map ρ) (hi.map ρ) k) : CallE P pm h ⟨dst, .slice t x lo hi none, ty, p, af, gd⟩ ρ k := by
  unfold vslice at hh
  split at hh
  · next s hx =>
    obtain ⟨hs, hh⟩ := hh
    obtain ⟨l, hl, hh⟩ := vbd_ok hh
    obtain ⟨r, hr, ⟨h1, h2⟩, hh⟩ := vbd_ok hh
    exact .mk (Still.qt (s_slice_str _ _ _ _ hs hx hl hr h1 h2)) hh
  · next sz els hx =>
    split at hh
    · next e sz' hs =>
      obtain ⟨rfl, hh⟩ := hh
      obtain ⟨l, hl, hh⟩ := vbd_ok hh
      obtain ⟨r, hr, ⟨h1, h2⟩, hh⟩ := vbd_ok hh
      exact .mk (Still.qt (s_slice_lst _ _ _ _ hs hx rfl hl hr h1 h2)) hh
    · exact hh.elim
  · next sz els hx =>
    split at hh
    · next e sz' hs =>
      obtain ⟨rfl, hh⟩ := hh
      obtain ⟨l, hl, hh⟩ := vbd_ok hh
      obtain ⟨r, hr, ⟨h1, h2⟩, hh⟩ := vbd_ok hh
      exact .mk (Still.qt (s_slice_bor _ _ _ _ hs hx rfl hl hr h1 h2)) hh
    · exact hh.elim
  · next j ver hx =>
    split at hh
    · next e sz te sz' els v hs hj =>
      obtain ⟨⟨rfl, rfl⟩, hh⟩ := hh
      obtain ⟨l, hl, hh⟩ := vbd_ok hh
      obtain ⟨r, hr, ⟨h1, h2⟩, hh⟩ := vbd_ok hh
      exact .mk (Still.qt (s_slice_own _ _ _ _ hs hx hj rfl hl hr h1 h2)) hh
    · exact hh.elim
  · exact hh.elim
theorem vext_ok {x : Operand} {i : Nat} (hh : vext i (ρ x) k) : CallE P pm h ⟨dst, .extract x i, ty, p, af, gd⟩ ρ k := by
  unfold vext at hh
  split at hh
  · next vs hx =>
    split at hh
    · next α hα =>
      exact .mk (Still.qt (s_extract _ _ hx hα (by intro us e; rw [e] at hh; exact absurd hh.1 (by simp [AV.flat])))) hh.2
    · exact hh.elim
  · exact hh.elim
theorem vbuild_ok {t : TypeId} {ps : List (Nat × Operand)} (hh : vbuild P t (ps.map fun x => (x.1, ρ x.2)) k) : CallE P pm h ⟨dst, .build t ps.toArray, ty, p, af, gd⟩ ρ k := by
  unfold vbuild at hh
  split at hh
  · next pl zc h1 h2 =>
    split at hh
    · next cs h3 => exact .mk (Still.qt (s_build _ _ h1 h2 h3)) hh
    · exact hh.elim
  · exact hh.elim
theorem vlit_ok {t : TypeId} {n : Nat} {ps : List (Nat × Operand)} (hh : vlit P t n (ps.map fun x => (x.1, ρ x.2)) k) : CallE P pm h ⟨dst, .buildSlice t n ps.toArray, ty, p, af, gd⟩ ρ k := by
  unfold vlit at hh
  split at hh
  · next te sz by_ h1 =>
    split at hh
    · next els h2 =>
      rw [List.length_map] at hh
      exact .mk (q_buildSlice _ _ _ h1 h2 hh.1.1 hh.1.2) hh.2
    · exact hh.elim
  · exact hh.elim
theorem vclo_ok {f : FuncId} {caps : Array Operand} (hh : vclo f (caps.toList.map ρ) k) : CallE P pm h ⟨dst, .makeFunc (.func f) #[] caps, ty, p, af, gd⟩ ρ k := by
  unfold vclo at hh
  split at hh
  · next is h1 => exact .mk (Still.qt (s_makeFunc' _ _ h1)) hh
  · exact hh.elim
theorem vnilc_ok {x : Operand} (hh : vnilc h (ρ x) k) : CallE P pm h ⟨dst, .nilCheck x, ty, p, af, gd⟩ ρ k := by
  unfold vnilc at hh
  split at hh
  · next cs hx => exact .mk (Still.qt (hx ▸ s_nilCheck _ (.inl ⟨_, hx⟩))) hh
  · next i o hx => exact .mk (Still.qt (hx ▸ s_nilCheck _ (.inr ⟨_, _, hx⟩))) hh
  · next i ver sz kk off hx =>
    split at hh
    · next hi =>
      obtain ⟨⟨rfl, rfl⟩, hh⟩ := hh
      exact .mk (Still.qt (s_nilCheckR _ hx fun cx G w s => by obtain ⟨v, _, hg, _⟩ := row_at s hi; exact ⟨v, hg⟩)) hh
    · next hi =>
      obtain ⟨⟨rfl, rfl⟩, hh⟩ := hh
      exact .mk (Still.qt (s_nilCheckR _ hx fun cx G w s => by obtain ⟨v, _, hg, _⟩ := opnrow_at s hi; exact ⟨v, hg⟩)) hh
    · exact hh.elim
  · exact hh.elim
theorem vbi_ok {b : Builtin} {as : List Operand} {ts : List TypeId} (hh : vbi P h b (as.map ρ) ts k) : CallE P pm h ⟨dst, .call { callee := .builtin b, args := as.toArray, argTypes := ts.toArray }, ty, p, af, gd⟩ ρ k := by
  unfold vbi at hh
  split at hh
  · next α t e =>
    match as, e with
    | [x], e =>
      injection e with e _
      subst e
      unfold vlen at hh
      split at hh
      · next l hx => exact .mk (Still.qt (s_len_str _ _ hh.1 hx)) hh.2
      · next hx =>
        split at hh
        · next q hs => exact .mk (Still.qt (s_len_nil _ _ (slT_some hs).1 hx)) hh
        · exact hh.elim
      · split at hh
        · next q sz els hs he => exact .mk (Still.qt (s_len _ _ (slT_some hs).1 he)) hh
        · exact hh.elim
  · next α β e =>
    match as, e with
    | [x, y], e =>
      injection e with e1 e2
      injection e2 with e2 _
      unfold vmm at hh
      split at hh
      · obtain ⟨rfl, hk⟩ := hh
        exact .mk (Still.qt (s_min _ _ _ e1 e2)) hk
      · exact hh.elim
  · next α β e =>
    match as, e with
    | [x, y], e =>
      injection e with e1 e2
      injection e2 with e2 _
      unfold vmm at hh
      split at hh
      · obtain ⟨rfl, hk⟩ := hh
        exact .mk (Still.qt (s_max _ _ _ e1 e2)) hk
      · exact hh.elim
  · exact hh.elim
theorem q_call' {f : FuncId} {x : Operand} {as : List Operand} {ts : Array TypeId} {args' : List AV} {rs : List RV} (hx : ρ x = .c (.clo f [])) (hc : AFn P pm.Γ f args' rs) (ha : All2 (ArgOk pm h) (as.map ρ) args') :
    Qt P pm h ⟨dst, .call { callee := .value x, args := as.toArray, argTypes := ts }, ty, p, af, gd⟩ ρ (rsAV rs) := by
  intro cx G w a hp s ho next Q hn
  have hargs := args_ok (a := a) s hp as args' ha fun x hx => ho x (by simp [Op.operands, Call.operands, hx])
  have hv := ho x (by simp [Op.operands, Call.operands])
  rw [hx] at hv
  obtain ⟨bs, e, hbs⟩ := hv
  cases hbs
  have hr : (execOp a.eval ⟨dst, .call { callee := .value x, args := as.toArray, argTypes := ts }, ty, p, af, gd⟩).run P w = .ok (.enter f (as.map a.eval).toArray) w := by
    simp [execOp, resolve, Deferred.ofValue, e, invoke, run_callFunc hc.call]
  unfold Oper.wp
  rw [hr]
  refine (hc.run _ w _ (viewOk_of s (by rw [hp])) hargs).mono fun e w' hafter => ?_
  obtain ⟨G', vs, rfl, hG, s', hrs⟩ := after_all s hafter
  exact hn _ _ G' hG s' (rsAV_ok hrs)
theorem CallX_ok {as : List Operand} {x : Operand} {ts : Array TypeId} (hh : CallX P pm h ⟨dst, .call { callee := .value x, args := as.toArray, argTypes := ts }, ty, p, af, gd⟩ ρ (ρ x) (as.map ρ) k ⟨⟩) :
    CallE P pm h ⟨dst, .call { callee := .value x, args := as.toArray, argTypes := ts }, ty, p, af, gd⟩ ρ k := by
  rcases hh with hh | hh
  · unfold vcallee at hh
    split at hh
    · next f e =>
      obtain ⟨args', rs, h1, h2, h3⟩ := hh
      exact .mk (q_call' e h1 h2) h3
    · next R e =>
      obtain ⟨F, args', rs, rfl, h0, h2, h3⟩ := hh
      exact .mk (q_callfn e h0 h2) h3
    · exact hh.elim
  · exact hh
theorem run_partF {t : TypeId} (hl : ldT P t = some none) {cs : Array Value} {off : Nat} {v : Value} (hv : cs[off]? = some v) (w : World) : (part t cs off).run P w = .ok v w := by
  have : (isAgg t).run P w = .ok false w := by
    unfold ldT at hl
    split at hl
    · cases hi : P.info? t <;> simp [hi] at hl
    · cases hi : P.info? t <;> simp [hi] at hl
    · next q h1 h2 hq =>
      cases q <;> simp_all [isAgg, run_underlying hq]
    · cases hl
  simp [part, this, hv]
theorem vfield1_ok {t : TypeId} {x : Operand} {i : Nat} (hh : vfv2 (flT P t i) (ρ x) k) : CallE P pm h ⟨dst, .field t x i, ty, p, af, gd⟩ ρ k := by
  unfold vfv2 at hh
  split at hh
  · next o cs ho hx =>
    unfold flT at ho
    split at ho
    · next fs hu =>
      split at ho
      · next f hf =>
        split at ho
        · next hl =>
          cases ho
          obtain ⟨hlt, hk⟩ := hh
          refine .mk (r := .c cs[f.offset]) (Still.qt ?_) hk
          intro cx G w a s hop
          obtain ⟨vs, e1, hc⟩ := (hx ▸ hop x (by simp [Op.operands]) : Ar G (.agg cs) (a.eval x))
          obtain ⟨u, hu1, hr⟩ := hc.get f.offset cs[f.offset] (List.getElem?_eq_getElem hlt)
          refine ⟨u, ?_, hr⟩
          have hp := run_partF (P := P) hl (cs := vs.toArray) (off := f.offset) (v := u) (by simpa using hu1) w
          simp [execOp, e1, Instr.field, run_underlying hu, hf, asAgg, hp]
        · cases ho
      · cases ho
    · cases ho
  · exact hh.elim
theorem vlook_ok {t : TypeId} {x y : Operand} {ok : Bool} (hh : vlook P h t (ρ x) (ρ y) ok k) : CallE P pm h ⟨dst, .lookup t x y ok, ty, p, af, gd⟩ ρ k := by
  unfold vlook at hh
  split at hh
  · next sh m ks h1 h2 => exact .mk (Still.qt (s_lookup _ _ _ ok hh.1.1 h1 h2 hh.1.2)) hh.2
  · exact hh.elim
theorem ventry_ok {x : Operand} (hh : ventry h (ρ x) k) : CallE P pm h ⟨dst, .entry x, ty, p, af, gd⟩ ρ k := by
  unfold ventry at hh
  split at hh
  · next j h1 =>
    split at hh
    · next todo kv h2 => exact .mk (Still.qt (s_entry _ h1 h2)) hh
    · exact hh.elim
  · exact hh.elim
theorem vq_ok (hh : vq P h pm o ρ k) : CallE P pm h o ρ k := by
  obtain ⟨dst, op, ty, p, af, gd⟩ := o
  unfold vq at hh
  simp only at hh
  split at hh
  · exact .mk (Still.qt (s_move _)) hh
  · exact .mk (Still.qt (s_assign _)) hh
  · exact vpick_ok hh
  · exact vbin_ok hh
  · exact vun_ok hh
  · exact vconv_ok hh
  · exact vload_ok hh
  · exact vfield_ok hh
  · exact vfield1_ok hh
  · exact vindex_ok hh
  · exact vstr_ok hh
  · exact vslice_ok hh
  · exact vext_ok hh
  · next t ps => have := vbuild_ok (pm := pm) (h := h) (dst := dst) (ty := ty) (p := p) (af := af) (gd := gd) (ps := ps.toList) hh; simpa using this
  · next t n ps => have := vlit_ok (pm := pm) (h := h) (dst := dst) (ty := ty) (p := p) (af := af) (gd := gd) (ps := ps.toList) hh; simpa using this
  · obtain ⟨rfl, hh⟩ := hh
    exact vclo_ok hh
  · exact vnilc_ok hh
  · exact vlook_ok hh
  · exact ventry_ok hh
  · next b as ts => have := vbi_ok (pm := pm) (dst := dst) (ty := ty) (p := p) (af := af) (gd := gd) (as := as.toList) (ts := ts.toList) hh; simpa using this
  · next x as ts =>
    have := CallX_ok (pm := pm) (h := h) (dst := dst) (ty := ty) (p := p) (af := af) (gd := gd) (x := x) (as := as.toList) (ts := ts) (k := k) (P := P) (ρ := ρ)
    simp only [Array.toArray_toList] at this
    exact this hh
  · exact hh.elim
end
end Go.Ax
