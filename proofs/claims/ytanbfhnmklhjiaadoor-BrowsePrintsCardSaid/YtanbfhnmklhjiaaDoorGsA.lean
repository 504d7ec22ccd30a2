/- Part of a proof about this program; no condition of its own. -/
import Derived.Test.YtanbfhnmklhjiaaDoorGxR
import Derived.Shelf.GgSortFunc.InsertionK
import Derived.Sort.LotA
import Derived.Test.YtanbfhnmklhjiaaDoorGxE
import Derived.Shelf.SlSortCmp.InsertionK
set_option linter.all false
/- Rows of several cells under a sort: what a row of the call's own holds behind it. No condition. -/
namespace Go.Proofs
open Go Go.Ax Go.Shelf Go.RowKit Go.Lib Go.Sort
variable {α : Type} [Inhabited α]
theorem flatten_get (enc : α → List Value) (k : Nat) (hk : ∀ x, (enc x).length = k) : ∀ (l : List α) (t : Nat), t < l.length * k → ((l.map enc).flatten)[t]! = (enc l[t / k]!)[t % k]!
  | [], t, h => by simp at h
  | x :: r, t, h => by
    have hk0 : 0 < k := by rcases Nat.eq_zero_or_pos k with h0 | h0; · subst h0; simp at h
                           · exact h0
    rw [List.map_cons, List.flatten_cons]
    by_cases ht : t < k
    · rw [Nat.div_eq_of_lt ht, Nat.mod_eq_of_lt ht]
      simp only [List.getElem!_eq_getElem?_getD]
      rw [List.getElem?_append_left (by rw [hk]; exact ht)]
      rfl
    · have e1 : t / k = (t - k) / k + 1 := by rw [Nat.div_eq_sub_div hk0 (by omega)]
      have e2 : t % k = (t - k) % k := by rw [Nat.mod_eq_sub_mod (by omega)]
      have ih := flatten_get enc k hk r (t - k) (by simp only [List.length_cons, Nat.add_mul, Nat.one_mul] at h; omega)
      rw [e1, e2]
      simp only [List.getElem!_eq_getElem?_getD] at ih ⊢
      rw [List.getElem?_append_right (by rw [hk]; omega), hk, ih]
      rfl
theorem flatten_len (enc : α → List Value) (k : Nat) (hk : ∀ x, (enc x).length = k) : ∀ l : List α, ((l.map enc).flatten).length = l.length * k
  | [] => by simp
  | x :: r => by rw [List.map_cons, List.flatten_cons, List.length_append, flatten_len enc k hk r, hk, List.length_cons, Nat.add_mul]; omega
theorem flatK_list (enc : α → List Value) (k : Nat) (hk : ∀ x, (enc x).length = k) (l : List α) : flatK enc k l.toArray = ((l.map enc).flatten).toArray := by
  refine ext_get! (by rw [size_flatK]; simp [flatten_len enc k hk]) fun t ht => ?_
  have ht' : t < l.length * k := by simpa using ht
  rw [get_flatK enc k l.toArray t (by simpa using ht')]
  have := flatten_get enc k hk l t ht'
  have e : ((l.map enc).flatten).toArray[t]! = ((l.map enc).flatten)[t]! := by simp
  rw [e, this]
  simp
theorem holdsK_of_block {enc : α → List Value} {k : Nat} (hk : ∀ x, (enc x).length = k) {w : World} {g : Nat} {cur : Array Value} {e : TypeId} {l : List α} (hb : w.heap[g]? = some (.cells cur e (0, 0))) (ht : cur.toList.take (l.length * k) = (l.map enc).flatten) : HoldsK enc k w g 0 l.toArray := by
  unfold HoldsK
  rw [flatK_list enc k hk]
  intro j hj
  have hl := flatten_len enc k hk l
  have hj' : j < l.length * k := by rw [← hl]; simpa using hj
  refine ⟨?_, by simp [World.frozen?, hb]⟩
  have h1 : (cur.toList.take (l.length * k))[j]? = ((l.map enc).flatten)[j]? := by rw [ht]
  rw [List.getElem?_take_of_lt hj'] at h1
  simp only [World.cell?, hb, Nat.zero_add]
  simp only [Option.isSome_none, Bool.false_eq_true, if_false]
  rw [← Array.getElem?_toList, h1]
  have : j < ((l.map enc).flatten).length := by omega
  generalize (l.map enc).flatten = xs at *
  simp [this]
theorem heap_sortedK {enc : α → List Value} {k : Nat} {w : World} {g n : Nat} {os : Array Obj} {cur : Array Value} {e : TypeId} {fr : Nat × Nat} (d : Array α) (hb : w.heap[g]? = some (.cells cur e fr)) :
    (sortWorldK enc k w g 0 n d os).heap[g]? = some (.cells (putCells id 0 (flatK enc k d) cur) e fr) := by
  have hg : g < w.heap.size := (Array.getElem?_eq_some_iff.1 hb).1
  unfold sortWorldK putRowK
  rw [heap_grow_old _ _ (by simpa using hg)]
  simp [putRow, mapBlock, Sort.ahead, Array.getElem?_modify, hb, onCells]
theorem grownBy_sortedK {enc : α → List Value} {k : Nat} {w : World} {g n : Nat} {os : Array Obj} (d : Array α) : w.grownBy (sortWorldK enc k w g 0 n d os) (some g) := by
  unfold sortWorldK putRowK
  refine ⟨rfl, rfl, rfl, by simp, fun k hk hne => ?_⟩
  rw [heap_grow_old _ _ (by simpa using hk)]
  have : g ≠ k := fun e => hne (by rw [e])
  simp [putRow, mapBlock, Sort.ahead, Array.getElem?_modify, this]
theorem take_putCellsK {enc : α → List Value} {k : Nat} (hk : ∀ x, (enc x).length = k) (cur : Array Value) (l : List α) (h : l.length * k ≤ cur.size) : (putCells id 0 (flatK enc k l.toArray) cur).toList.take (l.length * k) = (l.map enc).flatten := by
  rw [flatK_list enc k hk]
  have hl := flatten_len enc k hk l
  generalize (l.map enc).flatten = xs at *
  rw [← hl] at h ⊢
  apply List.ext_getElem?
  intro j
  by_cases hj : j < xs.length
  · rw [List.getElem?_take_of_lt hj, Array.getElem?_toList]
    simp [putCells, hj, show j < cur.size by omega]
  · rw [List.getElem?_take_eq_none (by omega), List.getElem?_eq_none (by omega)]
/-- A call that sorts a row of several cells, as a rule on rows of the call's own. -/
theorem RowOp2.sort {P : Program} {f g : FuncId} {te : TypeId} {k : Nat} (enc : α → List Value) (ds : α → List D) (hk : ∀ x, (enc x).length = k) (hd : ∀ x, (ds x).length = k) (hk0 : 0 < k) (lt : α → α → Bool) (l s : List α)
    (hxs : ∀ (V : Vw) xs, All2 (Dr V) (l.map ds).flatten xs → xs = (l.map enc).flatten) (hdr : ∀ V, All2 (Dr V) (s.map ds).flatten (s.map enc).flatten)
    (hs : ∀ l' : List α, l'.Perm l → l'.Pairwise (fun x y => lt y x = false) → l' = s) (hl : l.length < 4611686018427387904)
    (hnone : ∀ (p : Option Addr) (cap : Nat) (fv : Value) (w : World), Calls P f #[.slice p 0 cap, fv] w fun e w' => e = .returned (.tuple #[]) ∧ w' = w)
    (hc : ∀ (blk cap : Nat) (d : Array α) (w : World), HoldsK enc k w blk 0 d → blk < w.heap.size → d.size < 4611686018427387904 → Calls P f #[.slice (some ⟨blk, 0, none⟩) d.size cap, .func (.func g) #[] #[]] w fun e w' =>
      e = .returned (.tuple #[]) ∧ ∃ d' n os, PermIn 0 d.size d d' ∧ SortedIn lt 0 d.size d' ∧ w' = sortWorldK enc k w blk 0 n d' os) :
    RowOp2 P f g te k (l.map ds) (s.map ds) false := by
  intro V base v xs w how hdr'
  have hx := hxs V xs hdr'
  subst hx
  obtain ⟨hlen, ⟨rfl, h0⟩ | ⟨b, cap, cur, rfl, hg, hh, h1, h2, h3, h4⟩⟩ := how
  · have e0 : l = [] := by
      cases l with
      | nil => rfl
      | cons a r => simp at h0
    subst e0
    have e1 : s = [] := (hs [] (List.Perm.refl _) List.Pairwise.nil).symm
    subst e1
    refine (hnone none 0 _ w).mono fun e w' h => ?_
    obtain ⟨rfl, rfl⟩ := h
    exact ⟨_, [], rfl, fun _ => rfl, World.ownsRow_nil _ _ _ _, .nil, ⟨rfl, rfl, rfl, Nat.le_refl _, fun _ _ _ => rfl⟩, rfl⟩
  · rw [List.length_map] at h1 h4 ⊢
    have hsz : l.toArray.size = l.length := by simp
    refine (hc b cap l.toArray w (holdsK_of_block hk hh h4) (heap_lt hh) (by rw [hsz]; exact hl)).mono fun e w' h => ?_
    obtain ⟨rfl, d', n, os, hp, hso, rfl⟩ := h
    obtain ⟨hps, _, hpp⟩ := hp
    have ee : d'.extract 0 l.toArray.size = d' := by rw [← hps]; exact Array.extract_size
    rw [ee, Array.extract_size] at hpp
    have e1 : d'.toList = s := hs _ (by simpa using hpp) (by
      rw [List.pairwise_iff_getElem]
      intro i j hi hj hij
      have hi' : i < d'.size := by simpa using hi
      have hj' : j < d'.size := by simpa using hj
      have := hso i j (Nat.zero_le _) hij (by omega)
      rw [getElem!_pos d' j hj', getElem!_pos d' i hi'] at this
      simpa using this)
    have e2 : d' = s.toArray := by rw [← e1]
    subst e2
    have hsl : s.length = l.length := by simpa using hps
    refine ⟨_, (s.map enc).flatten, rfl, fun _ => rfl, ?_, hdr V, grownBy_sortedK _, rfl⟩
    rw [List.length_map]
    refine ⟨by rw [flatten_len enc k hk], .inr ⟨b, cap, _, by rw [hsl], hg, heap_sortedK _ hh, by rw [hsl]; exact h1, h2, by simp [putCells, h3], ?_⟩⟩
    exact take_putCellsK hk cur s (by rw [hsl, h3]; exact Nat.mul_le_mul_right _ h1)
end Go.Proofs

/- slices.SortFunc on a row of one's own, by whatever comparison that has a contract. No condition. -/
namespace Go.Proofs
open Go Go.Ax Go.Shelf Go.RowKit Go.Lib Go.Sort
variable {α : Type} [Inhabited α]
theorem RFn.sort {P : Program} {Γ : List (Nat × List D)} {f : FuncId} {te : TypeId} {k : Nat} (enc : α → List Value) (ds : α → List D) (hk : ∀ x, (enc x).length = k) (hd : ∀ x, (ds x).length = k) (cf : α → α → Int) (l s : List α)
    (hxs : ∀ (V : Vw) xs, All2 (Dr V) (l.map ds).flatten xs → xs = (l.map enc).flatten) (hdr : ∀ V, All2 (Dr V) (s.map ds).flatten (s.map enc).flatten) (hag : ∀ (V : Vw) x, All2 (Cr ⟨V, []⟩) ((ds x).map C.d) (enc x)) (hsc : (s.map ds).flatten.all D.scal = true)
    (hs : ∀ l' : List α, l'.Perm l → l'.Pairwise (fun x y => ltOf cf y x = false) → l' = s) (hl : l.length < 4611686018427387904) (hcall : CallOk P f) (F : List AV → List RV → Prop)
    (hF : ∀ x y, F [.agg ((ds x).map C.d), .agg ((ds y).map C.d)] [.d (.int .i64 (cf x y))])
    (hnone : ∀ (p : Option Addr) (cap : Nat) (fv : Value) (w : World), Calls P f #[.slice p 0 cap, fv] w fun e w' => e = .returned (.tuple #[]) ∧ w' = w)
    (hc : ∀ (g : Nat) (cb : Array Value) (blk cap : Nat) (d : Array α) (w : World), (∀ args w, (callFunc g args).run P w = .ok (.enter g args) w) → CmpLays P g cb enc k cf blk 0 d.size w → HoldsK enc k w blk 0 d → blk < w.heap.size → d.size < 4611686018427387904 →
      Calls P f #[.slice (some ⟨blk, 0, none⟩) d.size cap, .func (.func g) #[] cb] w fun e w' => e = .returned (.tuple #[]) ∧ ∃ d' n os, PermIn 0 d.size d d' ∧ SortedIn (ltOf cf) 0 d.size d' ∧ w' = sortWorldK enc k w blk 0 n d' os) :
    RFn P Γ f te k (l.map ds) (s.map ds) [.c (.fn (FnSpec P Γ F))] [] := by
  refine ⟨hcall, hsc, rfl, fun e he => by obtain ⟨x, _, rfl⟩ := List.mem_map.1 he; exact hd x, fun V w base v vals xs hbase hview how hVn hdr' hargs => ?_⟩
  cases hargs with | cons a1 a2 =>
  cases a2
  obtain ⟨g, cb, rfl, hcg, hrun⟩ := a1.2 V (.refl V)
  have eg := run_callFunc hcg
  have hx := hxs V xs hdr'
  subst hx
  obtain ⟨hlen, ⟨rfl, h0⟩ | ⟨b, cap, cur, rfl, hg, hh, h1, h2, h3, h4⟩⟩ := how
  · have e0 : l = [] := by
      cases l with
      | nil => rfl
      | cons a r => simp at h0
    subst e0
    have e1 : s = [] := (hs [] (List.Perm.refl _) List.Pairwise.nil).symm
    subst e1
    refine (hnone none 0 _ w).mono fun e w' h => ?_
    obtain ⟨rfl, rfl⟩ := h
    exact ⟨[], [], rfl, .nil, World.ownsRow_nil _ _ _ _, .nil, ⟨rfl, rfl, rfl, Nat.le_refl _, fun _ _ _ => rfl⟩⟩
  · rw [List.length_map] at h1 h4 ⊢
    have hsz : l.toArray.size = l.length := by simp
    have hVb : V.H b = none := hVn b rfl
    have hcmp : CmpLays P g cb enc k cf b 0 l.toArray.size w := by
      intro m os dk hdk x y
      have hgr := grownBy_sortedK (enc := enc) (k := k) (w := w) (g := b) (n := m) (os := os) dk
      have hview2 : ViewOk Γ V (sortWorldK enc k w b 0 m dk os) := ⟨fun c o ho => by
        rw [hgr.block c (heap_lt (hview.view c o ho)) (fun e => by injection e with e; rw [e, hVb] at ho; cases ho)]
        exact hview.view c o ho, hview.imm, hview.glob⟩
      have hq := hrun _ _ (hF x y) V _ [.agg (enc x).toArray, .agg (enc y).toArray] (.refl V) hview2 (.cons ⟨_, rfl, hag V x⟩ (.cons ⟨_, rfl, hag V y⟩ .nil))
      refine (Calls.drawn hq fun e w' h => ?_).mono fun e w' h => ?_
      · obtain ⟨V', vs, he, _⟩ := h; exact ⟨_, he⟩
      · obtain ⟨⟨V', vs, he, _, _, _, hrs, hbl⟩, hdn⟩ := h
        cases hrs with | cons r1 r2 =>
        cases r2
        have e1 := dr_int r1
        subst e1
        exact ⟨he, grow_of_below hbl hdn⟩
    refine (hc g cb b cap l.toArray w eg hcmp (holdsK_of_block hk hh h4) (heap_lt hh) (by rw [hsz]; exact hl)).mono fun e w' h => ?_
    obtain ⟨rfl, d', n, os, hp, hso, rfl⟩ := h
    obtain ⟨hps, _, hpp⟩ := hp
    have ee : d'.extract 0 l.toArray.size = d' := by rw [← hps]; exact Array.extract_size
    rw [ee, Array.extract_size] at hpp
    have e1 : d'.toList = s := hs _ (by simpa using hpp) (by
      rw [List.pairwise_iff_getElem]
      intro i j hi hj hij
      have hi' : i < d'.size := by simpa using hi
      have hj' : j < d'.size := by simpa using hj
      have := hso i j (Nat.zero_le _) hij (by omega)
      rw [getElem!_pos d' j hj', getElem!_pos d' i hi'] at this
      simpa using this)
    have e2 : d' = s.toArray := by rw [← e1]
    subst e2
    have hsl : s.length = l.length := by simpa using hps
    refine ⟨[], (s.map enc).flatten, rfl, .nil, ?_, hdr V, grownBy_sortedK _⟩
    rw [List.length_map]
    refine ⟨by rw [flatten_len enc k hk], .inr ⟨b, cap, _, by rw [hsl], hg, heap_sortedK _ hh, by rw [hsl]; exact h1, h2, by simp [putCells, h3], ?_⟩⟩
    exact take_putCellsK hk cur s (by rw [hsl, h3]; exact Nat.mul_le_mul_right _ h1)
end Go.Proofs
