/- Part of a proof about this program; no condition of its own. -/
import Derived.Test.YtanbfhnmklhjiaaDoorGwI
import Derived.Test.YtanbfhnmklhjiaaDoorGxM
set_option linter.all false
/- Build of the program. No condition. -/
namespace Go.Proofs
open Go Go.Ax Go.Tx Go.Lib Go.RowKit Go.Fc
set_option maxRecDepth 100000
set_option maxHeartbeats 0
variable {Γ : List (Nat × List D)}
theorem Tryd.mapT54 : MapT Tryd.prog 54 [.str, .str] :=
  MapT.arr2s (K := 55) (E := 3) (e := 9) (by kernel_rfl) (of_decide_eq_true (by kernel_rfl)) (of_decide_eq_true (by kernel_rfl)) (by kernel_rfl) (by kernel_rfl) (by kernel_rfl) (by kernel_rfl) (by kernel_rfl) (by kernel_rfl) (by kernel_rfl) Tryd.zeroValue3
theorem mget_mpre (m : Mp) (k : List KD) : mget (mpre m k) k = mget m k := by
  unfold mpre
  cases h : mhas m k with
  | true => rfl
  | false =>
    rw [if_neg (by simp)]
    have := mget_mput m k 0 k
    rw [mput_none h, if_pos rfl] at this
    rw [this, (mget_none h).1]
theorem midx_lt {m : Mp} {k : List KD} : midx m k < (mpre m k).length := by
  unfold mpre
  cases h : mhas m k with
  | false => rw [if_neg (by simp), (mget_none h).2]; simp
  | true =>
    rw [if_pos rfl]
    induction m with
    | nil => cases h
    | cons kv r ih =>
      unfold midx
      by_cases hk : kv.1 = k
      · rw [if_pos hk]; simp
      · rw [if_neg hk]
        have := ih (by unfold mhas at h ⊢; simpa [hk] using h)
        simp only [List.length_cons]; omega
def tab62 : List (List Bool × List Nat) := [([true, true, true, true, false, false, false, false, false], [4, 6]), ([true, true, true, true, true, false, false, false, false], [5, 6]), ([true, true, true, true, false, false, true, false, false], [4, 7]), ([true, true, true, true, true, true, false, false, false], [6]), ([true, true, true, true, true, false, true, false, false], [5, 7]), ([true, true, true, true, false, false, true, true, false], [4]), ([true, true, true, true, true, true, true, false, false], [7]), ([true, true, true, true, true, false, true, true, false], [5]), ([true, true, true, true, true, true, true, true, false], [8]), ([true, true, true, true, true, true, true, true, true], [])]
theorem sbr_list (L : List Br) (h : ∀ b ∈ L, b.sm) : ∃ ls : List SBr, ls.map (fun b => b.1) = L := by
  induction L with
  | nil => exact ⟨[], rfl⟩
  | cons b L ih =>
    obtain ⟨ls, e⟩ := ih fun x hx => h x (by simp [hx])
    exact ⟨⟨b, h b (by simp)⟩ :: ls, by rw [List.map_cons, e]⟩
theorem all_sm {l : List Rec} {auths : List Au} {kind : Int} (hh : ∀ r ∈ l, ∀ f ∈ r.fields, f.hok) (ha : ∀ a ∈ auths, a.hd.length ≤ 1000000 ∧ (∀ s ∈ a.see, s.length ≤ 1000000) ∧ a.see.length ≤ 1000000) {p : Pr} (hp : p ∈ pairsR headH l kind ∨ p ∈ pairsA auths kind) : (mkBr headH l kind p).sm := by
  show p.1.length ≤ 1000000 ∧ p.2.length ≤ 1000000
  rcases hp with hp | hp
  · obtain ⟨r, hr, f, hf, _, _, rfl⟩ := mem_pairsR.1 hp
    have := headF_len (hh r hr f hf)
    exact ⟨by show (headF f).length ≤ _; omega, by simp⟩
  · unfold pairsA at hp
    obtain ⟨a, h1, h2⟩ := List.mem_flatMap.1 hp
    have h3 := ha a (List.mem_filter.1 h1).1
    rcases List.mem_cons.1 h2 with rfl | h2
    · exact ⟨h3.1, by simp⟩
    · obtain ⟨s, hs, rfl⟩ := List.mem_map.1 h2
      exact ⟨h3.2.1 s hs, h3.1⟩
theorem c12 (hΓ : (0, stdD) ∈ Γ) (l : List Rec) (auths : List Au) (kind : Int) (lang : Str) (hl : l.length ≤ 1000000) (hf : ∀ r ∈ l, r.fields.length ≤ 1000000) (hh : ∀ r ∈ l, ∀ f ∈ r.fields, f.hok) (htot : (l.flatMap fun r => r.fields).length ≤ 1000000) (ha : ∀ a ∈ auths, a.hd.length ≤ 1000000 ∧ (∀ s ∈ a.see, s.length ≤ 1000000) ∧ a.see.length ≤ 1000000) (hal : (pairsA auths kind).length ≤ 1000000) (hau : auths.length ≤ 1000000) (hne : ∀ a ∈ auths, a.kind = kind → a.hd ≠ []) :
    AFn Tryd.prog Γ 12 [.c (.d (.lst 5 (l.map Rec.ds))), .c (.d (.lst 5 (auths.map Au.ds))), .c (.d (.int .i64 kind)), .c (.d (.str lang))] [.fresh 29 3 ((buildF headH l auths kind lang).map Br.ds)] := by
  generalize hR : buildF headH l auths kind lang = R
  unfold buildF okKind at hR
  refine AFn.vc [] Tryd.func12 rfl Tryd.mixed (by kernel_rfl) Tryd.ntmps12 Tryd.results12 (by simp) ?_
  push_cast
  refine ⟨fun k1 => ⟨fun k4 => ?_, fun k4 => ?_⟩, fun k1 => ?_⟩
  · rw [← hR, if_neg (by simp; omega)]
  · rw [if_pos (by simp; omega)] at hR
    refine CallL.q (c17 hΓ l kind hl hf hh) ?_
    push_cast
    have hML : (countsM l kind).length ≤ 1000000 := Nat.le_trans (counts_len kind l []) (by simpa using htot)
    refine ⟨Tryd.mapT52, ?_⟩
    refine LoopV.nilfield 1 0 22 29 3 ?_
    push_cast
    refine LoopV.of Tryd.mixed [1, 2, 7, 9, 10, 12, 32] (S := Mp × Option (List KD × Int) × Mp × List Pr) (fun s => []) (fun s => [.box 9 [.d (.str lang)], .box 22 [.own 5 s.2.2.2.length], .mp [.str, .str] s.2.2.1, .box 54 [.own 2 0], .it s.1 s.2.1, .row 29 3 (s.2.2.2.map fun p => (mkBr headH l kind p).ds) s.2.2.2.length]) (fun s => In0 l kind (countsM l kind) s.1 s.2.2.1 s.2.2.2) (fun s => s.1.length) (countsM l kind, none, [], []) (In0.start l kind) (by push_cast; intro i hi; omega) ?_
    rintro ⟨todo, last, seen, q⟩ hin
    simp only at hin
    have hln := hin.len
    push_cast
    refine ⟨fun h => ?_, fun i hi => ?_⟩
    · subst h
      have hok := hin.ok
      refine LoopV.cntH Tryd.mixed [2, 7, 9, 10, 12, 44, 45] auths.length (fun k => [(46, .c (.d (.int .i64 k)))]) (fun k => [.box 9 [.d (.str lang)], .box 22 [.own 5 ((auths.take k).foldl (aStep kind) (seen, q)).2.length], .mp [.str, .str] ((auths.take k).foldl (aStep kind) (seen, q)).1, .box 54 [.own 2 0], .it [] last, .row 29 3 (((auths.take k).foldl (aStep kind) (seen, q)).2.map fun p => (mkBr headH l kind p).ds) ((auths.take k).foldl (aStep kind) (seen, q)).2.length]) (fun _ => True) trivial ?_ (by push_cast; exact ⟨⟨rfl, rfl, rfl, rfl⟩, fun i hi => by omega⟩)
      intro k hk _
      have hok2 := hok.aus (kind := kind) (auths.take k)
      push_cast
      refine ⟨fun h => ?_, fun h => ?_⟩
      · have hlt : k < auths.length := by omega
        refine ⟨hlt, ?_⟩
        have hst := fold_take (aStep kind) auths (seen, q) hlt
        have hlen2 := hok2.len
        have hpt : (pairsA (auths.take k) kind).length ≤ 1000000 := Nat.le_trans (pairsA_take auths kind k) hal
        have haa := ha _ (List.getElem_mem hlt)
        have hna := hne _ (List.getElem_mem hlt)
        generalize (auths.take k).foldl (aStep kind) (seen, q) = st at *
        rw [hst]
        refine ⟨fun e => ?_, fun e => ?_⟩
        · rw [aStep, if_pos e]
          exact ⟨⟨by omega, by omega⟩, hlt, ⟨rfl, rfl, rfl, rfl⟩, fun i hi => by omega⟩
        · rw [aStep, if_neg (by simpa using e)]
          have hna := hna e
          generalize auths[k] = au at *
          refine ⟨⟨Tryd.mapT52, by omega⟩, ?_⟩
          refine CallL.inlC0 [27, 1000001] Tryd.func18 rfl Tryd.mixed (by kernel_rfl) Tryd.ntmps18 rfl ?_
          push_cast
          refine ⟨⟨Tryd.mapT54, by omega⟩, fun e2 => ?_, fun e2 => ?_⟩
          · refine RegV.pre (E := [27, 1000001]) Tryd.mixed 4 (by kernel_rfl) (by kernel_rfl) ?_
            simp only [List.take_succ_cons, List.take_zero]
            push_cast
            have hg1 := mget_mpre st.1 [.str au.hd, .str []]
            have hml := midx_lt (m := st.1) (k := [.str au.hd, .str []])
            refine RegS.tab (E := [27, 1000001]) tab62 [none, none, none, none, some (18, .c (.d (.int .i64 (mget st.1 [.str au.hd, .str []])))), some (19, .c (.d (.int .i64 (mget st.1 [.str au.hd, .str []] + 1)))), some (20, .tup [.c (.d (.int .i64 (mget st.1 [.str au.hd, .str []]))), .c (.d (.int .i64 (midx st.1 [.str au.hd, .str []])))]), some (21, .c (.d (.int .i64 (midx st.1 [.str au.hd, .str []])))), none]
              [none, none, none, none, none, none, some [.box 9 [.d (.str lang)], .box 22 [.own 5 st.2.length], .mp [.str, .str] (mpre st.1 [.str au.hd, .str []]), .box 54 [.own 2 0], .it [] last, .row 29 3 (st.2.map fun p => (mkBr headH l kind p).ds) st.2.length, .box 46 (au.ds.map C.d)], none, some [.box 9 [.d (.str lang)], .box 22 [.own 5 st.2.length], .mp [.str, .str] (mput st.1 [.str au.hd, .str []] (mget st.1 [.str au.hd, .str []] + 1)), .box 54 [.own 2 0], .it [] last, .row 29 3 (st.2.map fun p => (mkBr headH l kind p).ds) st.2.length, .box 46 (au.ds.map C.d)]] (by kernel_rfl) (by kernel_rfl) rfl ?_ ?_
            · push_cast [tab62, hg1]
              repeat' (first | refine And.intro ?_ ?_ | exact Tryd.mapT54 | omega | exact rfl)
            · push_cast
              have hadd : addP st (au.hd, []) = (mput st.1 [.str au.hd, .str []] (mget st.1 [.str au.hd, .str []] + 1), st.2 ++ [(au.hd, [])]) := if_pos e2
              refine ⟨⟨by omega, by omega⟩, ?_⟩
              refine LoopV.cntH Tryd.mixed [2, 7, 9, 10, 12, 16, 44, 45, 46, 63, 64] au.see.length (fun j => [(65, .c (.d (.int .i64 j)))]) (fun j => [.box 9 [.d (.str lang)], .box 22 [.own 5 (((au.see.take j).map fun s => ((s, au.hd) : Pr)).foldl addP (addP st (au.hd, []))).2.length], .mp [.str, .str] (((au.see.take j).map fun s => ((s, au.hd) : Pr)).foldl addP (addP st (au.hd, []))).1, .box 54 [.own 2 0], .it [] last, .row 29 3 ((((au.see.take j).map fun s => ((s, au.hd) : Pr)).foldl addP (addP st (au.hd, []))).2.map fun p => (mkBr headH l kind p).ds) (((au.see.take j).map fun s => ((s, au.hd) : Pr)).foldl addP (addP st (au.hd, []))).2.length, .box 46 (au.ds.map C.d)]) (fun _ => True) trivial ?_ (by push_cast; rw [hadd]; exact ⟨⟨by simp, rfl, by show _ = List.map _ (st.2 ++ [_]); rw [List.map_append, countsM_get]; rfl, by simp⟩, fun i hi => by omega⟩)
              intro j hj _
              push_cast
              refine ⟨fun h3 => ?_, fun h3 => ?_⟩
              · have hjt : j < au.see.length := by omega
                have hst2 : ((au.see.take (j + 1)).map fun s => ((s, au.hd) : Pr)).foldl addP (addP st (au.hd, [])) = addP (((au.see.take j).map fun s => ((s, au.hd) : Pr)).foldl addP (addP st (au.hd, []))) (au.see[j], au.hd) := by
                  rw [List.take_succ_eq_append_getElem hjt, List.map_append, List.foldl_append]; rfl
                have hok3 := (hok2.add (au.hd, [])).fold ((au.see.take j).map fun s => ((s, au.hd) : Pr))
                have hl3 := hok3.len
                rw [List.length_map, List.length_take] at hl3
                have hwl := haa.2.1 _ (List.getElem_mem hjt)
                have hsl := haa.2.2
                refine ⟨hjt, ⟨Tryd.mapT52, by omega⟩, ?_⟩
                rw [hst2]
                generalize ((au.see.take j).map fun s => ((s, au.hd) : Pr)).foldl addP (addP st (au.hd, [])) = su at *
                generalize au.see[j] = wd at *
                refine CallL.inlC0 [27, 1000001] Tryd.func18 rfl Tryd.mixed (by kernel_rfl) Tryd.ntmps18 rfl ?_
                push_cast
                refine ⟨⟨Tryd.mapT54, by omega, by omega⟩, fun e3 => ?_, fun e3 => ?_⟩
                · have hadd : addP su (wd, au.hd) = (mput su.1 [.str wd, .str au.hd] (mget su.1 [.str wd, .str au.hd] + 1), su.2 ++ [(wd, au.hd)]) := if_pos e3
                  rw [hadd]
                  refine RegV.pre (E := [27, 1000001]) Tryd.mixed 4 (by kernel_rfl) (by kernel_rfl) ?_
                  simp only [List.take_succ_cons, List.take_zero]
                  push_cast
                  have hg1 := mget_mpre su.1 [.str wd, .str au.hd]
                  have hml := midx_lt (m := su.1) (k := [.str wd, .str au.hd])
                  refine RegS.tab (E := [27, 1000001]) tab62 [none, none, none, none, some (18, .c (.d (.int .i64 (mget su.1 [.str wd, .str au.hd])))), some (19, .c (.d (.int .i64 (mget su.1 [.str wd, .str au.hd] + 1)))), some (20, .tup [.c (.d (.int .i64 (mget su.1 [.str wd, .str au.hd]))), .c (.d (.int .i64 (midx su.1 [.str wd, .str au.hd])))]), some (21, .c (.d (.int .i64 (midx su.1 [.str wd, .str au.hd])))), none]
                    [none, none, none, none, none, none, some [.box 9 [.d (.str lang)], .box 22 [.own 5 su.2.length], .mp [.str, .str] (mpre su.1 [.str wd, .str au.hd]), .box 54 [.own 2 0], .it [] last, .row 29 3 (su.2.map fun p => (mkBr headH l kind p).ds) su.2.length, .box 46 (au.ds.map C.d)], none, some [.box 9 [.d (.str lang)], .box 22 [.own 5 su.2.length], .mp [.str, .str] (mput su.1 [.str wd, .str au.hd] (mget su.1 [.str wd, .str au.hd] + 1)), .box 54 [.own 2 0], .it [] last, .row 29 3 (su.2.map fun p => (mkBr headH l kind p).ds) su.2.length, .box 46 (au.ds.map C.d)]] (by kernel_rfl) (by kernel_rfl) rfl ?_ ?_
                  · push_cast [tab62, hg1]
                    repeat' (first | refine And.intro ?_ ?_ | exact Tryd.mapT54 | omega | exact rfl)
                  · push_cast
                    exact ⟨⟨by omega, by omega⟩, by omega, hjt, by rw [List.map_append, countsM_get]; simp only [List.map_cons, List.map_nil, mkBr, if_neg hna], fun i hi => by omega⟩
                · rw [show addP su (wd, au.hd) = su from if_neg e3]
                  exact ⟨⟨by omega, by omega⟩, hjt, ⟨rfl, rfl, rfl, rfl⟩, fun i hi => by omega⟩
              · rw [List.take_of_length_le (by omega)]
                exact ⟨⟨by omega, by omega⟩, hlt, ⟨rfl, rfl, rfl, rfl⟩, fun i hi => by omega⟩
          · have hadd : addP st (au.hd, []) = st := if_neg e2
            refine LoopV.cntH Tryd.mixed [2, 7, 9, 10, 12, 16, 44, 45, 46, 63, 64] au.see.length (fun j => [(65, .c (.d (.int .i64 j)))]) (fun j => [.box 9 [.d (.str lang)], .box 22 [.own 5 (((au.see.take j).map fun s => ((s, au.hd) : Pr)).foldl addP (addP st (au.hd, []))).2.length], .mp [.str, .str] (((au.see.take j).map fun s => ((s, au.hd) : Pr)).foldl addP (addP st (au.hd, []))).1, .box 54 [.own 2 0], .it [] last, .row 29 3 ((((au.see.take j).map fun s => ((s, au.hd) : Pr)).foldl addP (addP st (au.hd, []))).2.map fun p => (mkBr headH l kind p).ds) (((au.see.take j).map fun s => ((s, au.hd) : Pr)).foldl addP (addP st (au.hd, []))).2.length, .box 46 (au.ds.map C.d)]) (fun _ => True) trivial ?_ (by push_cast; rw [hadd]; exact ⟨⟨rfl, rfl, rfl, rfl⟩, fun i hi => by omega⟩)
            intro j hj _
            push_cast
            refine ⟨fun h3 => ?_, fun h3 => ?_⟩
            · have hjt : j < au.see.length := by omega
              have hst2 : ((au.see.take (j + 1)).map fun s => ((s, au.hd) : Pr)).foldl addP (addP st (au.hd, [])) = addP (((au.see.take j).map fun s => ((s, au.hd) : Pr)).foldl addP (addP st (au.hd, []))) (au.see[j], au.hd) := by
                rw [List.take_succ_eq_append_getElem hjt, List.map_append, List.foldl_append]; rfl
              have hok3 := (hok2.add (au.hd, [])).fold ((au.see.take j).map fun s => ((s, au.hd) : Pr))
              have hl3 := hok3.len
              rw [List.length_map, List.length_take] at hl3
              have hwl := haa.2.1 _ (List.getElem_mem hjt)
              have hsl := haa.2.2
              refine ⟨hjt, ⟨Tryd.mapT52, by omega⟩, ?_⟩
              rw [hst2]
              generalize ((au.see.take j).map fun s => ((s, au.hd) : Pr)).foldl addP (addP st (au.hd, [])) = su at *
              generalize au.see[j] = wd at *
              refine CallL.inlC0 [27, 1000001] Tryd.func18 rfl Tryd.mixed (by kernel_rfl) Tryd.ntmps18 rfl ?_
              push_cast
              refine ⟨⟨Tryd.mapT54, by omega, by omega⟩, fun e3 => ?_, fun e3 => ?_⟩
              · have hadd : addP su (wd, au.hd) = (mput su.1 [.str wd, .str au.hd] (mget su.1 [.str wd, .str au.hd] + 1), su.2 ++ [(wd, au.hd)]) := if_pos e3
                rw [hadd]
                refine RegV.pre (E := [27, 1000001]) Tryd.mixed 4 (by kernel_rfl) (by kernel_rfl) ?_
                simp only [List.take_succ_cons, List.take_zero]
                push_cast
                have hg1 := mget_mpre su.1 [.str wd, .str au.hd]
                have hml := midx_lt (m := su.1) (k := [.str wd, .str au.hd])
                refine RegS.tab (E := [27, 1000001]) tab62 [none, none, none, none, some (18, .c (.d (.int .i64 (mget su.1 [.str wd, .str au.hd])))), some (19, .c (.d (.int .i64 (mget su.1 [.str wd, .str au.hd] + 1)))), some (20, .tup [.c (.d (.int .i64 (mget su.1 [.str wd, .str au.hd]))), .c (.d (.int .i64 (midx su.1 [.str wd, .str au.hd])))]), some (21, .c (.d (.int .i64 (midx su.1 [.str wd, .str au.hd])))), none]
                  [none, none, none, none, none, none, some [.box 9 [.d (.str lang)], .box 22 [.own 5 su.2.length], .mp [.str, .str] (mpre su.1 [.str wd, .str au.hd]), .box 54 [.own 2 0], .it [] last, .row 29 3 (su.2.map fun p => (mkBr headH l kind p).ds) su.2.length, .box 46 (au.ds.map C.d)], none, some [.box 9 [.d (.str lang)], .box 22 [.own 5 su.2.length], .mp [.str, .str] (mput su.1 [.str wd, .str au.hd] (mget su.1 [.str wd, .str au.hd] + 1)), .box 54 [.own 2 0], .it [] last, .row 29 3 (su.2.map fun p => (mkBr headH l kind p).ds) su.2.length, .box 46 (au.ds.map C.d)]] (by kernel_rfl) (by kernel_rfl) rfl ?_ ?_
                · push_cast [tab62, hg1]
                  repeat' (first | refine And.intro ?_ ?_ | exact Tryd.mapT54 | omega | exact rfl)
                · push_cast
                  exact ⟨⟨by omega, by omega⟩, by omega, hjt, by rw [List.map_append, countsM_get]; simp only [List.map_cons, List.map_nil, mkBr, if_neg hna], fun i hi => by omega⟩
              · rw [show addP su (wd, au.hd) = su from if_neg e3]
                exact ⟨⟨by omega, by omega⟩, hjt, ⟨rfl, rfl, rfl, rfl⟩, fun i hi => by omega⟩
            · rw [List.take_of_length_le (by omega)]
              exact ⟨⟨by omega, by omega⟩, hlt, ⟨rfl, rfl, rfl, rfl⟩, fun i hi => by omega⟩
      · have ek : auths.take k = auths := List.take_of_length_le (by omega)
        rw [ek] at hok2
        obtain ⟨ls, hls⟩ := sbr_list ((auths.foldl (aStep kind) (seen, q)).2.map (mkBr headH l kind)) (fun b hb => by
          obtain ⟨p, hp, rfl⟩ := List.mem_map.1 hb
          exact all_sm hh ha ((hok2.mem p).1 hp))
        obtain ⟨rs, hrs⟩ := sbr_list R (fun b hb => by
          rw [← hR] at hb
          obtain ⟨p, hp, rfl⟩ := List.mem_map.1 hb
          exact all_sm hh ha (List.mem_append.1 ((buildP_spec headH l auths kind lang).2 p |>.1 hp)))
        have hsort : ∀ l' : List SBr, l'.Perm ls → l'.Pairwise (fun x y => ltP lang y.1.pr x.1.pr = false) → l' = rs := fun l' h1 h2 => by
          have h3 := h1.map (fun b : SBr => b.1)
          rw [hls] at h3
          obtain ⟨h4, h5⟩ := map_key_perm h3
          have h6 := build_sorted (lang := lang) hok2.inv.nd (fun v => (hok2.mem v).trans (by unfold allP; rw [List.mem_append])) h4 (by
            rw [List.map_map, List.pairwise_map]; exact h2)
          rw [h6, hR, ← hrs] at h5
          exact (List.map_inj_right (fun x y e => Subtype.ext e)).1 h5
        have e1 : ls.map (fun b => b.1.ds) = (auths.foldl (aStep kind) (seen, q)).2.map fun p => (mkBr headH l kind p).ds := by
          have := congrArg (List.map Br.ds) hls
          rw [List.map_map, List.map_map] at this
          exact this
        have e2 : rs.map (fun b => b.1.ds) = R.map Br.ds := by
          have := congrArg (List.map Br.ds) hrs
          rw [List.map_map] at this
          exact this
        have e3 : ls.length = (auths.foldl (aStep kind) (seen, q)).2.length := by
          have := congrArg List.length e1
          simpa using this
        have hlen2 := hok2.len
        refine CallL.rfn (c19 lang ls rs (by omega) hsort) ?_ (by
          show some (LB.row 29 3 _ _) = some (LB.row 29 3 _ _)
          rw [e1, ek]; rfl) rfl rfl rfl (.cons (ArgR.clo (dss := [[.str lang]]) ⟨⟨_, Tryd.func20, by kernel_rfl, by kernel_rfl⟩⟩ rfl (by simp) (by
            rintro args r ⟨x, y, hx, hy, rfl, rfl⟩
            exact c20 lang x y hx.1 hx.2 hy.1 hy.2)) .nil)
        push_cast
        exact e2
    · obtain ⟨r0, hr0, f0, hf0, _, hkv, hcn⟩ := countsM_mem (hin.sub _ (List.getElem_mem hi))
      have hdl := headF_len (hh r0 hr0 f0 hf0)
      generalize headF f0 = hd at hkv hcn hdl
      have hle : (todo.eraseIdx i).length < todo.length := by rw [List.length_eraseIdx_of_lt hi]; omega
      rw [hkv]
      push_cast
      refine ⟨fun e => ?_, fun e => ?_⟩
      · refine CallL.inlC0 [27, 1000001] Tryd.func18 rfl Tryd.mixed (by kernel_rfl) Tryd.ntmps18 rfl ?_
        push_cast
        refine ⟨⟨Tryd.mapT54, by omega⟩, fun e2 => ?_, fun e2 => ?_⟩
        · refine RegV.pre (E := [27, 1000001]) Tryd.mixed 4 (by kernel_rfl) (by kernel_rfl) ?_
          simp only [List.take_succ_cons, List.take_zero]
          push_cast
          have hg1 := mget_mpre seen [.str hd, .str []]
          have hml := midx_lt (m := seen) (k := [.str hd, .str []])
          refine RegS.tab (E := [27, 1000001]) tab62 [none, none, none, none, some (18, .c (.d (.int .i64 (mget seen [.str hd, .str []])))), some (19, .c (.d (.int .i64 (mget seen [.str hd, .str []] + 1)))), some (20, .tup [.c (.d (.int .i64 (mget seen [.str hd, .str []]))), .c (.d (.int .i64 (midx seen [.str hd, .str []])))]), some (21, .c (.d (.int .i64 (midx seen [.str hd, .str []])))), none]
            [none, none, none, none, none, none, some [.box 9 [.d (.str lang)], .box 22 [.own 5 q.length], .mp [.str, .str] (mpre seen [.str hd, .str []]), .box 54 [.own 2 0], .it (todo.eraseIdx i) (some todo[i]), .row 29 3 (q.map fun p => (mkBr headH l kind p).ds) q.length], none, some [.box 9 [.d (.str lang)], .box 22 [.own 5 q.length], .mp [.str, .str] (mput seen [.str hd, .str []] (mget seen [.str hd, .str []] + 1)), .box 54 [.own 2 0], .it (todo.eraseIdx i) (some todo[i]), .row 29 3 (q.map fun p => (mkBr headH l kind p).ds) q.length]] (by kernel_rfl) (by kernel_rfl) rfl ?_ ?_
          · push_cast [tab62, hg1]
            repeat' (first | refine And.intro ?_ ?_ | exact Tryd.mapT54 | omega | exact rfl)
          · push_cast
            refine ⟨⟨by omega, by omega⟩, (todo.eraseIdx i, some todo[i], _, q ++ [(hd, [])]), ⟨hin.put hi hkv (by simpa using e) e2, hle⟩, ⟨by simp, rfl, ⟨rfl, rfl⟩, ?_, by simp⟩, fun j hj => by omega⟩
            rw [List.map_append, hcn]
            rfl
        · exact ⟨(todo.eraseIdx i, some todo[i], seen, q), ⟨hin.skip hi hkv (.inr e2), hle⟩, ⟨rfl, rfl, ⟨rfl, rfl⟩, rfl, rfl⟩, fun j hj => by omega⟩
      · exact ⟨(todo.eraseIdx i, some todo[i], seen, q), ⟨hin.skip hi hkv (.inl (by simpa using e)), hle⟩, ⟨rfl, rfl, ⟨rfl, rfl⟩, rfl, rfl⟩, fun j hj => by omega⟩
  · rw [← hR, if_neg (by simp; omega)]
end Go.Proofs
