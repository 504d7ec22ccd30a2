/- Part of a proof about this program; no condition of its own. -/
import Derived.Test.YticdcapnomageaaDoorGyJ
import Derived.Test.YticdcapnomageaaDoorAxVp
set_option linter.all false
/- Walks of the chapter on partners, fifteenth part: two partners settle. No condition. -/
namespace Go.Proofs
open Go Go.Ax Go.Tx Go.Il
set_option maxRecDepth 100000
structure St2 where
  A : Partner
  B : Partner
  mail : List Msg
  k : Nat
def fz2 (st : St) : St := frzB 2 0 3 (frzB 2 1 8 st)
theorem fz2_ok {pm : Pm} (st : St) : Fw pm st (fz2 st) := (frzB_ok 2 1 8 st).trans (frzB_ok 2 0 3 _)
@[push_cast] theorem fz2_eq (e : Env) (h : List LB) : fz2 ⟨e, h⟩ = frzB 2 0 3 (frzB 2 1 8 ⟨e, h⟩) := rfl
structure I2 (n : Nat) (s : St2) : Prop where
  inv : Inv s.A s.B s.mail
  a : s.A.id = 1
  b : s.B.id = 2
  m : s.mail.length ≤ s.k
  k : s.k ≤ n
def tab18c : List (Nat × List Bool × List (Nat × Nat)) := [(0, [true, true, true, true, true, true, true, true, true, true, true, true, false, false, false, false, false], [(12, 0), (13, 0), (14, 0)]), (0, [true, true, true, true, true, true, true, true, true, true, true, true, false, false, true, false, false], [(12, 0), (13, 0)]), (0, [true, true, true, true, true, true, true, true, true, true, true, true, true, false, false, false, false], [(13, 0), (14, 0)]), (0, [true, true, true, true, true, true, true, true, true, true, true, true, false, true, false, false, false], [(12, 0), (14, 0)]), (0, [true, true, true, true, true, true, true, true, true, true, true, true, true, false, true, false, false], [(13, 0), (15, 0)]), (0, [true, true, true, true, true, true, true, true, true, true, true, true, false, true, true, false, false], [(12, 0)]), (0, [true, true, true, true, true, true, true, true, true, true, true, true, true, true, false, false, false], [(14, 0)]), (0, [true, true, true, true, true, true, true, true, true, true, true, true, true, true, true, false, false], [(15, 0)]), (0, [true, true, true, true, true, true, true, true, true, true, true, true, true, false, true, true, false], [(13, 0)]), (0, [true, true, true, true, true, true, true, true, true, true, true, true, true, true, true, true, false], [(16, 0)]), (0, [true, true, true, true, true, true, true, true, true, true, true, true, true, true, true, true, true], [])]
def tab18a : List (List Bool × List Nat) := [([true, true, true, true, true, true, true, true, false, false, false], [8]), ([true, true, true, true, true, true, true, true, true, false, false], [9]), ([true, true, true, true, true, true, true, true, true, true, false], [10]), ([true, true, true, true, true, true, true, true, true, true, true], [])]
def tab18b : List (List Bool × List Nat) := [([false, false, false, false, false, false, false, false, false], [0, 1, 4]), ([true, false, false, false, false, false, false, false, false], [1, 4]), ([false, true, false, false, false, false, false, false, false], [0, 2, 4]), ([false, false, false, false, true, false, false, false, false], [0, 1, 5]), ([true, true, false, false, false, false, false, false, false], [2, 4]), ([true, false, false, false, true, false, false, false, false], [1, 5]), ([false, true, true, false, false, false, false, false, false], [0, 4]), ([false, true, false, false, true, false, false, false, false], [0, 2, 5]), ([false, false, false, false, true, true, false, false, false], [0, 1]), ([true, true, true, false, false, false, false, false, false], [3, 4]), ([true, true, false, false, true, false, false, false, false], [2, 5]), ([true, false, false, false, true, true, false, false, false], [1]), ([false, true, true, false, true, false, false, false, false], [0, 5]), ([false, true, false, false, true, true, false, false, false], [0, 2]), ([true, true, true, true, false, false, false, false, false], [4]), ([true, true, true, false, true, false, false, false, false], [3, 5]), ([true, true, false, false, true, true, false, false, false], [2]), ([false, true, true, false, true, true, false, false, false], [0]), ([true, true, true, true, true, false, false, false, false], [5]), ([true, true, true, false, true, true, false, false, false], [3]), ([true, true, true, true, true, true, false, false, false], [6]), ([true, true, true, true, true, true, true, false, false], [7]), ([true, true, true, true, true, true, true, true, false], [8]), ([true, true, true, true, true, true, true, true, true], [])]
structure I3 (s : St2) : Prop where
  inv : Inv s.A s.B s.mail
  a : s.A.id = 1
  b : s.B.id = 2
  m : s.mail.length ≤ 60
  k : s.k ≤ 200
structure St3 where
  A : Partner
  B : Partner
  mail : List Msg
  i : Nat
  gone : Bool
structure I4 (s : St3) : Prop where
  inv : Inv s.A s.B s.mail
  a : s.A.id = 1
  b : s.B.id = 2
  m : s.mail.length ≤ 60
  i : s.i ≤ 1000
theorem c53s (A B : Partner) (mail : List Msg) (i : Nat) (hI : Inv A B mail) (hm : mail.length ≤ 60) : ∃ (N : Net) (e : Int), AFn Tryd.prog Γ0 53 [.agg [.d (.lst 3 [A.ds, B.ds]), .d (.lst 8 (mail.map Msg.ds))], .c (.d (.int .i64 i)), .c (.d (.bool false))] [.agg N.ds, .d (.int .i64 e)] ∧
    (e = 0 → ∃ A' B' mail', N = ⟨[A', B'], mail'⟩ ∧ Inv A' B' mail' ∧ mail'.length ≤ mail.length ∧ A'.id = A.id ∧ B'.id = B.id) := by
  have l1 := hI.pa.len
  have l2 := hI.pb.len
  have hcp : ∀ p ∈ (⟨[A, B], mail⟩ : Net).partners, p.sides.length ≤ 1000 ∧ ∀ s ∈ p.sides, hearK s := fun p hp => by
    have hp : p = A ∨ p = B := by simpa using hp
    rcases hp with rfl | rfl
    · exact ⟨by omega, hI.pa.hearK⟩
    · exact ⟨by omega, hI.pb.hearK⟩
  have hcm : ∀ m ∈ (⟨[A, B], mail⟩ : Net).mail, m.note.length ≤ 100000 := fun m hm => by
    have := (hI.mv m hm).2.1
    omega
  exact ⟨_, _, c53 ⟨[A, B], mail⟩ i false (Nat.le_succ_of_le (show 2 ≤ 999 by decide)) (by show mail.length ≤ 1000; omega) hcp hcm, fun e => hI.del i false e⟩
set_option maxHeartbeats 16000000 in
theorem c18 (l : List Stp) : AFn Tryd.prog Γ0 18 [.c (.d (.lst 1 (l.map Stp.ds)))] [.d (.bool true)] := by
  refine AFn.vc [125, 1000019, 1000027, 1000029] Tryd.func18 rfl Tryd.mixed (by kernel_rfl) Tryd.ntmps18 Tryd.results18 (by simp) ?_
  push_cast
  refine CallL.q c38 ?_
  push_cast
  intro hlen
  refine CallL.q (c57 1) ?_
  push_cast
  refine CallL.q (c57 2) ?_
  push_cast
  refine LoopV.ofF Tryd.mixed fz2 (fun st => fz2_ok st) [0, 7] (fun s : St2 => [(8, .c (.d (.int .i64 s.k)))]) (fun s => [.box 53 ((newP 1).ds.map C.d), .box 53 ((newP 2).ds.map C.d), .box 67 [.d (.lst 3 [s.A.ds, s.B.ds]), .d (.lst 8 (s.mail.map Msg.ds))]]) (I2 l.length) (fun s => l.length - s.k) ⟨newP 1, newP 2, [], 0⟩ ⟨inv0, rfl, rfl, Nat.zero_le _, Nat.zero_le _⟩ (by push_cast) ?_
  rintro ⟨A, B, mail, k⟩ ⟨hI, hA, hB, hm, hk⟩
  simp only at hI hA hB hm hk
  by_cases hk' : k < l.length
  case neg =>
    have e1 : ((k : Int) < l.length) = False := eq_false (by omega)
    push_cast [e1]
    refine LoopV.of Tryd.mixed [7] (fun s : St2 => [(17, .c (.d (.int .i64 s.k)))]) (fun s => [.box 53 ((newP 1).ds.map C.d), .box 53 ((newP 2).ds.map C.d), .box 67 [.d (.lst 3 [s.A.ds, s.B.ds]), .d (.lst 8 (s.mail.map Msg.ds))]]) I3 (fun s => 200 - s.k) ⟨A, B, mail, 0⟩ ⟨hI, hA, hB, by show mail.length ≤ 60; omega, Nat.zero_le _⟩ (by push_cast) ?_
    clear hI hA hB hm hk hk' e1
    rintro ⟨A, B, mail, r⟩ ⟨hI, hA, hB, hm, hr⟩
    simp only at hI hA hB hm hr
    push_cast
    refine ⟨fun h1 => ?_, fun h1 => ?_⟩
    · refine LoopV.of Tryd.mixed [7, 17] (fun s : St3 => [(18, .c (.d (.bool s.gone))), (19, .c (.d (.int .i64 s.i)))]) (fun s => [.box 53 ((newP 1).ds.map C.d), .box 53 ((newP 2).ds.map C.d), .box 67 [.d (.lst 3 [s.A.ds, s.B.ds]), .d (.lst 8 (s.mail.map Msg.ds))]]) I4 (fun s => if s.gone = true then 0 else s.mail.length - s.i + 1) ⟨A, B, mail, 0, false⟩ ⟨hI, hA, hB, hm, Nat.zero_le _⟩ (by push_cast) ?_
      clear hI hA hB hm
      rintro ⟨A, B, mail, i, gone⟩ ⟨hI, hA, hB, hm, hi⟩
      simp only at hI hA hB hm hi
      have hl1 := hI.pa.len
      have hl2 := hI.pb.len
      cases gone
      · push_cast
        refine ⟨fun h2 => ?_, fun h2 => ?_⟩
        · refine Exists.elim (c53s A B mail i hI hm) fun N hx => Exists.elim hx fun eN hy => ?_
          refine CallL.q hy.1 ?_
          push_cast
          refine ⟨fun he => ?_, fun he => ?_⟩
          · obtain ⟨A', B', mail', q1, q2, q3, q4, q5⟩ := hy.2 he
            subst q1
            push_cast
            exact ⟨⟨by omega, by omega⟩, ⟨A', B', mail', i + 1, true⟩, ⟨⟨q2, q4.trans hA, q5.trans hB, by show mail'.length ≤ 60; omega, by show i + 1 ≤ 1000; omega⟩, by simp⟩, ⟨rfl, rfl⟩, ⟨⟨rfl, rfl, rfl⟩, rfl, rfl, rfl⟩, rfl⟩
          · exact ⟨⟨by omega, by omega⟩, ⟨A, B, mail, i + 1, false⟩, ⟨⟨hI, hA, hB, hm, by show i + 1 ≤ 1000; omega⟩, by simp; omega⟩, ⟨rfl, rfl⟩, ⟨⟨rfl, rfl, rfl⟩, rfl, rfl, rfl⟩, rfl⟩
        · intro h9
          obtain rfl : mail = [] := List.eq_nil_of_length_eq_zero (by omega)
          have l1 := hI.pa.len
          have l2 := hI.pb.len
          refine CallX.q (c45 A B hI.pa.role hI.pb.role (by omega) (by omega)) ?_
          rw [hI.agree]
          push_cast
          refine CallX.q (c59 A (by omega) hI.sa) ?_
          rw [(pright_iff _).2 hI.pa]
          push_cast
          refine CallX.q (c59 B (by omega) hI.sb) ?_
          rw [(pright_iff _).2 hI.pb]
          push_cast
      · push_cast
        have hnx : (-9223372036854775808 ≤ (r : Int) + 1 ∧ (r : Int) + 1 ≤ 9223372036854775807) ∧ ∃ s', (I3 s' ∧ 200 - s'.k < 200 - r) ∧ (s'.k : Int) = r + 1 ∧ ((A.id = s'.A.id ∧ A.next = s'.A.next ∧ List.map Side.ds A.sides = List.map Side.ds s'.A.sides) ∧ B.id = s'.B.id ∧ B.next = s'.B.next ∧ List.map Side.ds B.sides = List.map Side.ds s'.B.sides) ∧ List.map Msg.ds mail = List.map Msg.ds s'.mail :=
          ⟨⟨by omega, by omega⟩, ⟨A, B, mail, r + 1⟩, ⟨⟨hI, hA, hB, hm, by show r + 1 ≤ 200; omega⟩, by show 200 - (r + 1) < 200 - r; omega⟩, rfl, ⟨⟨rfl, rfl, rfl⟩, rfl, rfl, rfl⟩, rfl⟩
        exact ⟨fun _ => hnx, fun _ => hnx⟩
    · intro h9
      obtain rfl : mail = [] := List.eq_nil_of_length_eq_zero (by omega)
      have l1 := hI.pa.len
      have l2 := hI.pb.len
      refine CallX.q (c45 A B hI.pa.role hI.pb.role (by omega) (by omega)) ?_
      rw [hI.agree]
      push_cast
      refine CallX.q (c59 A (by omega) hI.sa) ?_
      rw [(pright_iff _).2 hI.pa]
      push_cast
      refine CallX.q (c59 B (by omega) hI.sb) ?_
      rw [(pright_iff _).2 hI.pb]
      push_cast
  have e1 : ((k : Int) < l.length) = True := eq_true (by omega)
  have hlo := l[k].lo
  have hhi := l[k].hi
  have hpa := hI.pa
  have hpb := hI.pb
  have hlA := hpa.len
  have hlB := hpb.len
  have hnA := hpa.next
  have hnB := hpb.next
  have hok : ∀ {q : Partner}, PV q → ∀ s ∈ q.sides, s.sent.length ≤ 1000 := fun {q} h s hs => by
    obtain ⟨_, _, _, _, _, _, _, _, a, _⟩ := side_val (h.side s hs)
    omega
  have hcp : ∀ p ∈ (⟨[A, B], mail⟩ : Net).partners, p.sides.length ≤ 1000 ∧ ∀ s ∈ p.sides, hearK s := fun p hp => by
    have hp : p = A ∨ p = B := by simpa using hp
    rcases hp with rfl | rfl
    · exact ⟨by omega, hpa.hearK⟩
    · exact ⟨by omega, hpb.hearK⟩
  have hcm : ∀ m ∈ (⟨[A, B], mail⟩ : Net).mail, m.note.length ≤ 100000 := fun m hm => by
    have := (hI.mv m hm).2.1
    omega
  by_cases hw : l[k].v % 2 = 0
  · by_cases ho : l[k].v / 2 % 4 = 0
    · push_cast [e1, hw, ho]
      refine ⟨hk', ⟨by omega, by omega⟩, by omega, ⟨by omega, by omega⟩, by omega, ⟨by omega, by omega⟩, by omega, ⟨by omega, by omega⟩, ?_⟩
      refine CallL.q (c40 A 2 (1 + l[k].v / 8 % 5) k (by omega) (by omega) (by omega)) ?_
      generalize hP : pAskP A 2 (1 + l[k].v / 8 % 5) k = P'
      generalize hM : pAskM A 2 (1 + l[k].v / 8 % 5) k = M'
      push_cast
      refine ⟨fun he => ?_, fun he => ?_⟩
      · have hI' : Il.Inv P' B (mail ++ [M']) := by
          have := hI.ask (rc := 1 + l[k].v / 8 % 5) (dy := k) (by rw [hB]; exact he)
          rw [hB, hP, hM] at this
          exact this
        have hid : P'.id = 1 := by rw [← hP, (pask_right hpa he).2.2.1]; exact hA
        refine RegV.pre (E := [125, 1000019, 1000027, 1000029]) Tryd.mixed 8 (by kernel_rfl) (by kernel_rfl) ?_
        simp only [List.take_succ_cons, List.take_zero]
        push_cast
        refine RegS.tab (E := [125, 1000019, 1000027, 1000029]) tab18a [none, none, none, none, none, none, none, none, some (125, .c (.own 5 0)), some (126, .c (.loc 2 0)), none] [none, none, none, none, none, none, none, none, some [.box 53 ((newP 1).ds.map C.d), .box 53 ((newP 2).ds.map C.d), .box 67 [.d (.lst 3 [A.ds, B.ds]), .d (.lst 8 (mail.map Msg.ds))], .box 53 (P'.ds.map C.d), .box 28 (M'.ds.map C.d), .row 53 3 [A.ds, B.ds] 0], none, some [.box 53 ((newP 1).ds.map C.d), .box 53 ((newP 2).ds.map C.d), .box 67 [.own 5 0, .d (.lst 8 (mail.map Msg.ds))], .box 53 (P'.ds.map C.d), .box 28 (M'.ds.map C.d), .row 53 3 [A.ds, B.ds] 0]] (by kernel_rfl) (by kernel_rfl) rfl ?_ ?_
        · push_cast [tab18a]
        push_cast
        refine RegV.tab (E := [125, 1000019, 1000027, 1000029]) Tryd.mixed tab18b [some (132, .c (.own 6 0)), some (133, .c (.loc 2 1)), some (134, .c (.d (.lst 8 (mail.map Msg.ds)))), some (135, .c (.own 6 1)), some (136, .agg (M'.ds.map C.d)), some (137, .c (.d (.lst 8 [M'.ds]))), some (138, .c (.own 6 2)), some (139, .c (.loc 2 1)), none]
          [some [.box 53 ((newP 1).ds.map C.d), .box 53 ((newP 2).ds.map C.d), .box 67 [.own 5 0, .d (.lst 8 (mail.map Msg.ds))], .box 53 (P'.ds.map C.d), .box 28 (M'.ds.map C.d), .row 53 3 [P'.ds, B.ds] 0, .row 28 8 [] 0], none, none, some [.box 53 ((newP 1).ds.map C.d), .box 53 ((newP 2).ds.map C.d), .box 67 [.own 5 0, .d (.lst 8 (mail.map Msg.ds))], .box 53 (P'.ds.map C.d), .box 28 (M'.ds.map C.d), .row 53 3 [P'.ds, B.ds] 0, .row 28 8 (mail.map Msg.ds) 1], none, none, some [.box 53 ((newP 1).ds.map C.d), .box 53 ((newP 2).ds.map C.d), .box 67 [.own 5 0, .d (.lst 8 (mail.map Msg.ds))], .box 53 (P'.ds.map C.d), .box 28 (M'.ds.map C.d), .row 53 3 [P'.ds, B.ds] 0, .row 28 8 (mail.map Msg.ds ++ [M'.ds]) 2], none, some [.box 53 ((newP 1).ds.map C.d), .box 53 ((newP 2).ds.map C.d), .box 67 [.own 5 0, .own 6 2], .box 53 (P'.ds.map C.d), .box 28 (M'.ds.map C.d), .row 53 3 [P'.ds, B.ds] 0, .row 28 8 (mail.map Msg.ds ++ [M'.ds]) 2]] (by kernel_rfl) (by kernel_rfl) rfl ?_ ?_
        · push_cast [tab18b]
          repeat' (first | refine And.intro ?_ ?_ | omega)
        push_cast
        refine ⟨⟨by omega, by omega⟩, ⟨P', B, mail ++ [M'], k + 1⟩, ⟨⟨hI', hid, hB, by simp; omega, by simp; omega⟩, by simp; omega⟩, rfl, ⟨⟨rfl, rfl, rfl⟩, rfl, rfl, rfl⟩, by rw [List.map_append]; rfl⟩
      · exact ⟨⟨by omega, by omega⟩, ⟨A, B, mail, k + 1⟩, ⟨⟨hI, hA, hB, Nat.le_succ_of_le hm, hk'⟩, by show l.length - (k + 1) < l.length - k; omega⟩, rfl, ⟨⟨rfl, rfl, rfl⟩, rfl, rfl, rfl⟩, rfl⟩
    by_cases ho : l[k].v / 2 % 4 = 1
    · push_cast [e1, hw, ho]
      refine ⟨hk', ⟨by omega, by omega⟩, by omega, ⟨by omega, by omega⟩, by omega, ⟨by omega, by omega⟩, by omega, ⟨by omega, by omega⟩, ⟨by omega, by omega⟩, by omega, ⟨by omega, by omega⟩, ?_⟩
      refine CallL.q (c47 A 2 (1 + l[k].v / 128 % 3) (1 + l[k].v / 8 % 11) k [] (by omega) (hok hpa) (Nat.zero_le _)) ?_
      generalize hP : pSayP A 2 (1 + l[k].v / 128 % 3) (1 + l[k].v / 8 % 11) k [] = P'
      generalize hM : pSayM A 2 (1 + l[k].v / 128 % 3) (1 + l[k].v / 8 % 11) k [] = M'
      push_cast
      refine ⟨fun he => ?_, fun he => ?_⟩
      · have hI' : Il.Inv P' B (mail ++ [M']) := by
          have := hI.say (req := 1 + l[k].v / 128 % 3) (kind := 1 + l[k].v / 8 % 11) (dy := k) (by rw [hB]; exact he)
          rw [hB, hP, hM] at this
          exact this
        have hid : P'.id = 1 := by rw [← hP, (psay_right hpa hI.sa (Nat.zero_le _) he).2.1]; exact hA
        refine RegV.pre (E := [125, 1000019, 1000027, 1000029]) Tryd.mixed 8 (by kernel_rfl) (by kernel_rfl) ?_
        simp only [List.take_succ_cons, List.take_zero]
        push_cast
        refine RegS.tab (E := [125, 1000019, 1000027, 1000029]) tab18a [none, none, none, none, none, none, none, none, some (125, .c (.own 5 0)), some (126, .c (.loc 2 0)), none] [none, none, none, none, none, none, none, none, some [.box 53 ((newP 1).ds.map C.d), .box 53 ((newP 2).ds.map C.d), .box 67 [.d (.lst 3 [A.ds, B.ds]), .d (.lst 8 (mail.map Msg.ds))], .box 53 (P'.ds.map C.d), .box 28 (M'.ds.map C.d), .row 53 3 [A.ds, B.ds] 0], none, some [.box 53 ((newP 1).ds.map C.d), .box 53 ((newP 2).ds.map C.d), .box 67 [.own 5 0, .d (.lst 8 (mail.map Msg.ds))], .box 53 (P'.ds.map C.d), .box 28 (M'.ds.map C.d), .row 53 3 [A.ds, B.ds] 0]] (by kernel_rfl) (by kernel_rfl) rfl ?_ ?_
        · push_cast [tab18a]
        push_cast
        refine RegV.tab (E := [125, 1000019, 1000027, 1000029]) Tryd.mixed tab18b [some (132, .c (.own 6 0)), some (133, .c (.loc 2 1)), some (134, .c (.d (.lst 8 (mail.map Msg.ds)))), some (135, .c (.own 6 1)), some (136, .agg (M'.ds.map C.d)), some (137, .c (.d (.lst 8 [M'.ds]))), some (138, .c (.own 6 2)), some (139, .c (.loc 2 1)), none]
          [some [.box 53 ((newP 1).ds.map C.d), .box 53 ((newP 2).ds.map C.d), .box 67 [.own 5 0, .d (.lst 8 (mail.map Msg.ds))], .box 53 (P'.ds.map C.d), .box 28 (M'.ds.map C.d), .row 53 3 [P'.ds, B.ds] 0, .row 28 8 [] 0], none, none, some [.box 53 ((newP 1).ds.map C.d), .box 53 ((newP 2).ds.map C.d), .box 67 [.own 5 0, .d (.lst 8 (mail.map Msg.ds))], .box 53 (P'.ds.map C.d), .box 28 (M'.ds.map C.d), .row 53 3 [P'.ds, B.ds] 0, .row 28 8 (mail.map Msg.ds) 1], none, none, some [.box 53 ((newP 1).ds.map C.d), .box 53 ((newP 2).ds.map C.d), .box 67 [.own 5 0, .d (.lst 8 (mail.map Msg.ds))], .box 53 (P'.ds.map C.d), .box 28 (M'.ds.map C.d), .row 53 3 [P'.ds, B.ds] 0, .row 28 8 (mail.map Msg.ds ++ [M'.ds]) 2], none, some [.box 53 ((newP 1).ds.map C.d), .box 53 ((newP 2).ds.map C.d), .box 67 [.own 5 0, .own 6 2], .box 53 (P'.ds.map C.d), .box 28 (M'.ds.map C.d), .row 53 3 [P'.ds, B.ds] 0, .row 28 8 (mail.map Msg.ds ++ [M'.ds]) 2]] (by kernel_rfl) (by kernel_rfl) rfl ?_ ?_
        · push_cast [tab18b]
          repeat' (first | refine And.intro ?_ ?_ | omega)
        push_cast
        refine ⟨⟨by omega, by omega⟩, ⟨P', B, mail ++ [M'], k + 1⟩, ⟨⟨hI', hid, hB, by simp; omega, by simp; omega⟩, by simp; omega⟩, rfl, ⟨⟨rfl, rfl, rfl⟩, rfl, rfl, rfl⟩, by rw [List.map_append]; rfl⟩
      · exact ⟨⟨by omega, by omega⟩, ⟨A, B, mail, k + 1⟩, ⟨⟨hI, hA, hB, Nat.le_succ_of_le hm, hk'⟩, by show l.length - (k + 1) < l.length - k; omega⟩, rfl, ⟨⟨rfl, rfl, rfl⟩, rfl, rfl, rfl⟩, rfl⟩
    have o0 : (l[k].v / 2 % 4 = 0) = False := eq_false (by assumption)
    have o1 : (l[k].v / 2 % 4 = 1) = False := eq_false (by assumption)
    push_cast [e1, hw, o0, o1]
    refine ⟨hk', ⟨by omega, by omega⟩, by omega, ⟨by omega, by omega⟩, by omega, fun h2 => ?_, fun h2 => ?_⟩
    · refine RegV.preA (E := [125, 1000019, 1000027, 1000029]) Tryd.mixed 12 [⟨14, 15, 67, [.d (.raw (.slice none 0 0)), .d (.raw (.slice none 0 0))]⟩] (by kernel_rfl) (by kernel_rfl) ?_ ?_
      · intro x hx
        simp only [List.mem_cons, List.not_mem_nil, or_false] at hx
        subst hx
        push_cast
      simp only [List.take_succ_cons, List.take_zero]
      push_cast
      refine ⟨⟨by omega, by omega⟩, ⟨by omega, by omega⟩, ⟨by omega, by omega⟩, CallX.q (c53 ⟨[A, B], mail⟩ (l[k].v / 8 % mail.length) (decide (l[k].v / 8192 = 7)) (Nat.le_succ_of_le (show 2 ≤ 999 by decide)) (by show mail.length ≤ 1000; omega) hcp hcm) ?_⟩
      generalize hN : delN ⟨[A, B], mail⟩ (l[k].v / 8 % mail.length) (decide (l[k].v / 8192 = 7)) = N
      generalize hE : delE ⟨[A, B], mail⟩ (l[k].v / 8 % mail.length) = eN
      push_cast
      refine ⟨fun hA' => ⟨⟨by omega, by omega⟩, ⟨by omega, by omega⟩, ⟨by omega, by omega⟩, CallX.q (c53 ⟨[A, B], mail⟩ (l[k].v / 8 % mail.length) (decide (l[k].v / 8192 = 7)) (Nat.le_succ_of_le (show 2 ≤ 999 by decide)) (by show mail.length ≤ 1000; omega) hcp hcm) ?_⟩, ?_⟩
      · rw [hN, hE]
        push_cast
      refine RestA.tab1 (E := [125, 1000019, 1000027, 1000029]) tab18c [([none, none, none, none, none, none, none, none, none, none, none, none, some (78, .agg (N.ds.map C.d)), some (79, .c (.d (.int .i64 eN))), some (15, .c (.loc 5 0)), none, some (16, .c (.d (.int .i64 eN)))], [none, none, none, none, none, none, none, none, none, none, none, none, none, none, some [.box 53 ((newP 1).ds.map C.d), .box 53 ((newP 2).ds.map C.d), .box 67 [.d (.lst 3 [A.ds, B.ds]), .d (.lst 8 (mail.map Msg.ds))], .box 53 (A.ds.map C.d), .box 28 (msg0.ds.map C.d), .box 67 [.d (.raw (.slice none 0 0)), .d (.raw (.slice none 0 0))]], some [.box 53 ((newP 1).ds.map C.d), .box 53 ((newP 2).ds.map C.d), .box 67 [.d (.lst 3 [A.ds, B.ds]), .d (.lst 8 (mail.map Msg.ds))], .box 53 (A.ds.map C.d), .box 28 (msg0.ds.map C.d), .box 67 (N.ds.map C.d)], none])] (by kernel_rfl) (by kernel_rfl) rfl rfl rfl ?_ ?_
      · push_cast [tab18c, msg0]
      push_cast [msg0]
      refine ⟨fun he => ?_, fun he => ?_⟩
      · obtain ⟨A', B', mail', q1, q2, q3, q4, q5⟩ := hI.del (l[k].v / 8 % mail.length) (decide (l[k].v / 8192 = 7)) (by rw [hE]; exact he)
        rw [hN] at q1
        subst q1
        exact ⟨⟨by omega, by omega⟩, ⟨A', B', mail', k + 1⟩, ⟨⟨q2, q4.trans hA, q5.trans hB, by show mail'.length ≤ k + 1; omega, hk'⟩, by show l.length - (k + 1) < l.length - k; omega⟩, rfl, rfl, rfl⟩
      · exact ⟨⟨by omega, by omega⟩, ⟨A, B, mail, k + 1⟩, ⟨⟨hI, hA, hB, Nat.le_succ_of_le hm, hk'⟩, by show l.length - (k + 1) < l.length - k; omega⟩, rfl, ⟨⟨rfl, rfl, rfl⟩, rfl, rfl, rfl⟩, rfl⟩
    · exact ⟨⟨by omega, by omega⟩, ⟨A, B, mail, k + 1⟩, ⟨⟨hI, hA, hB, Nat.le_succ_of_le hm, hk'⟩, by show l.length - (k + 1) < l.length - k; omega⟩, rfl, ⟨⟨rfl, rfl, rfl⟩, rfl, rfl, rfl⟩, rfl⟩
  · have hw : l[k].v % 2 = 1 := by omega
    by_cases ho : l[k].v / 2 % 4 = 0
    · push_cast [e1, hw, ho]
      refine ⟨hk', ⟨by omega, by omega⟩, by omega, ⟨by omega, by omega⟩, by omega, ⟨by omega, by omega⟩, by omega, ⟨by omega, by omega⟩, ?_⟩
      refine CallL.q (c40 B 1 (1 + l[k].v / 8 % 5) k (by omega) (by omega) (by omega)) ?_
      generalize hP : pAskP B 1 (1 + l[k].v / 8 % 5) k = P'
      generalize hM : pAskM B 1 (1 + l[k].v / 8 % 5) k = M'
      push_cast
      refine ⟨fun he => ?_, fun he => ?_⟩
      · have hI' : Il.Inv P' A (mail ++ [M']) := by
          have := hI.symm.ask (rc := 1 + l[k].v / 8 % 5) (dy := k) (by rw [hA]; exact he)
          rw [hA, hP, hM] at this
          exact this
        have hid : P'.id = 2 := by rw [← hP, (pask_right hpb he).2.2.1]; exact hB
        refine RegV.pre (E := [125, 1000019, 1000027, 1000029]) Tryd.mixed 8 (by kernel_rfl) (by kernel_rfl) ?_
        simp only [List.take_succ_cons, List.take_zero]
        push_cast
        refine RegS.tab (E := [125, 1000019, 1000027, 1000029]) tab18a [none, none, none, none, none, none, none, none, some (125, .c (.own 5 0)), some (126, .c (.loc 2 0)), none] [none, none, none, none, none, none, none, none, some [.box 53 ((newP 1).ds.map C.d), .box 53 ((newP 2).ds.map C.d), .box 67 [.d (.lst 3 [A.ds, B.ds]), .d (.lst 8 (mail.map Msg.ds))], .box 53 (P'.ds.map C.d), .box 28 (M'.ds.map C.d), .row 53 3 [A.ds, B.ds] 0], none, some [.box 53 ((newP 1).ds.map C.d), .box 53 ((newP 2).ds.map C.d), .box 67 [.own 5 0, .d (.lst 8 (mail.map Msg.ds))], .box 53 (P'.ds.map C.d), .box 28 (M'.ds.map C.d), .row 53 3 [A.ds, B.ds] 0]] (by kernel_rfl) (by kernel_rfl) rfl ?_ ?_
        · push_cast [tab18a]
        push_cast
        refine RegV.tab (E := [125, 1000019, 1000027, 1000029]) Tryd.mixed tab18b [some (132, .c (.own 6 0)), some (133, .c (.loc 2 1)), some (134, .c (.d (.lst 8 (mail.map Msg.ds)))), some (135, .c (.own 6 1)), some (136, .agg (M'.ds.map C.d)), some (137, .c (.d (.lst 8 [M'.ds]))), some (138, .c (.own 6 2)), some (139, .c (.loc 2 1)), none]
          [some [.box 53 ((newP 1).ds.map C.d), .box 53 ((newP 2).ds.map C.d), .box 67 [.own 5 0, .d (.lst 8 (mail.map Msg.ds))], .box 53 (P'.ds.map C.d), .box 28 (M'.ds.map C.d), .row 53 3 [A.ds, P'.ds] 0, .row 28 8 [] 0], none, none, some [.box 53 ((newP 1).ds.map C.d), .box 53 ((newP 2).ds.map C.d), .box 67 [.own 5 0, .d (.lst 8 (mail.map Msg.ds))], .box 53 (P'.ds.map C.d), .box 28 (M'.ds.map C.d), .row 53 3 [A.ds, P'.ds] 0, .row 28 8 (mail.map Msg.ds) 1], none, none, some [.box 53 ((newP 1).ds.map C.d), .box 53 ((newP 2).ds.map C.d), .box 67 [.own 5 0, .d (.lst 8 (mail.map Msg.ds))], .box 53 (P'.ds.map C.d), .box 28 (M'.ds.map C.d), .row 53 3 [A.ds, P'.ds] 0, .row 28 8 (mail.map Msg.ds ++ [M'.ds]) 2], none, some [.box 53 ((newP 1).ds.map C.d), .box 53 ((newP 2).ds.map C.d), .box 67 [.own 5 0, .own 6 2], .box 53 (P'.ds.map C.d), .box 28 (M'.ds.map C.d), .row 53 3 [A.ds, P'.ds] 0, .row 28 8 (mail.map Msg.ds ++ [M'.ds]) 2]] (by kernel_rfl) (by kernel_rfl) rfl ?_ ?_
        · push_cast [tab18b]
          repeat' (first | refine And.intro ?_ ?_ | omega)
        push_cast
        refine ⟨⟨by omega, by omega⟩, ⟨A, P', mail ++ [M'], k + 1⟩, ⟨⟨hI'.symm, hA, hid, by simp; omega, by simp; omega⟩, by simp; omega⟩, rfl, ⟨⟨rfl, rfl, rfl⟩, rfl, rfl, rfl⟩, by rw [List.map_append]; rfl⟩
      · exact ⟨⟨by omega, by omega⟩, ⟨A, B, mail, k + 1⟩, ⟨⟨hI, hA, hB, Nat.le_succ_of_le hm, hk'⟩, by show l.length - (k + 1) < l.length - k; omega⟩, rfl, ⟨⟨rfl, rfl, rfl⟩, rfl, rfl, rfl⟩, rfl⟩
    by_cases ho : l[k].v / 2 % 4 = 1
    · push_cast [e1, hw, ho]
      refine ⟨hk', ⟨by omega, by omega⟩, by omega, ⟨by omega, by omega⟩, by omega, ⟨by omega, by omega⟩, by omega, ⟨by omega, by omega⟩, ⟨by omega, by omega⟩, by omega, ⟨by omega, by omega⟩, ?_⟩
      refine CallL.q (c47 B 1 (1 + l[k].v / 128 % 3) (1 + l[k].v / 8 % 11) k [] (by omega) (hok hpb) (Nat.zero_le _)) ?_
      generalize hP : pSayP B 1 (1 + l[k].v / 128 % 3) (1 + l[k].v / 8 % 11) k [] = P'
      generalize hM : pSayM B 1 (1 + l[k].v / 128 % 3) (1 + l[k].v / 8 % 11) k [] = M'
      push_cast
      refine ⟨fun he => ?_, fun he => ?_⟩
      · have hI' : Il.Inv P' A (mail ++ [M']) := by
          have := hI.symm.say (req := 1 + l[k].v / 128 % 3) (kind := 1 + l[k].v / 8 % 11) (dy := k) (by rw [hA]; exact he)
          rw [hA, hP, hM] at this
          exact this
        have hid : P'.id = 2 := by rw [← hP, (psay_right hpb hI.sb (Nat.zero_le _) he).2.1]; exact hB
        refine RegV.pre (E := [125, 1000019, 1000027, 1000029]) Tryd.mixed 8 (by kernel_rfl) (by kernel_rfl) ?_
        simp only [List.take_succ_cons, List.take_zero]
        push_cast
        refine RegS.tab (E := [125, 1000019, 1000027, 1000029]) tab18a [none, none, none, none, none, none, none, none, some (125, .c (.own 5 0)), some (126, .c (.loc 2 0)), none] [none, none, none, none, none, none, none, none, some [.box 53 ((newP 1).ds.map C.d), .box 53 ((newP 2).ds.map C.d), .box 67 [.d (.lst 3 [A.ds, B.ds]), .d (.lst 8 (mail.map Msg.ds))], .box 53 (P'.ds.map C.d), .box 28 (M'.ds.map C.d), .row 53 3 [A.ds, B.ds] 0], none, some [.box 53 ((newP 1).ds.map C.d), .box 53 ((newP 2).ds.map C.d), .box 67 [.own 5 0, .d (.lst 8 (mail.map Msg.ds))], .box 53 (P'.ds.map C.d), .box 28 (M'.ds.map C.d), .row 53 3 [A.ds, B.ds] 0]] (by kernel_rfl) (by kernel_rfl) rfl ?_ ?_
        · push_cast [tab18a]
        push_cast
        refine RegV.tab (E := [125, 1000019, 1000027, 1000029]) Tryd.mixed tab18b [some (132, .c (.own 6 0)), some (133, .c (.loc 2 1)), some (134, .c (.d (.lst 8 (mail.map Msg.ds)))), some (135, .c (.own 6 1)), some (136, .agg (M'.ds.map C.d)), some (137, .c (.d (.lst 8 [M'.ds]))), some (138, .c (.own 6 2)), some (139, .c (.loc 2 1)), none]
          [some [.box 53 ((newP 1).ds.map C.d), .box 53 ((newP 2).ds.map C.d), .box 67 [.own 5 0, .d (.lst 8 (mail.map Msg.ds))], .box 53 (P'.ds.map C.d), .box 28 (M'.ds.map C.d), .row 53 3 [A.ds, P'.ds] 0, .row 28 8 [] 0], none, none, some [.box 53 ((newP 1).ds.map C.d), .box 53 ((newP 2).ds.map C.d), .box 67 [.own 5 0, .d (.lst 8 (mail.map Msg.ds))], .box 53 (P'.ds.map C.d), .box 28 (M'.ds.map C.d), .row 53 3 [A.ds, P'.ds] 0, .row 28 8 (mail.map Msg.ds) 1], none, none, some [.box 53 ((newP 1).ds.map C.d), .box 53 ((newP 2).ds.map C.d), .box 67 [.own 5 0, .d (.lst 8 (mail.map Msg.ds))], .box 53 (P'.ds.map C.d), .box 28 (M'.ds.map C.d), .row 53 3 [A.ds, P'.ds] 0, .row 28 8 (mail.map Msg.ds ++ [M'.ds]) 2], none, some [.box 53 ((newP 1).ds.map C.d), .box 53 ((newP 2).ds.map C.d), .box 67 [.own 5 0, .own 6 2], .box 53 (P'.ds.map C.d), .box 28 (M'.ds.map C.d), .row 53 3 [A.ds, P'.ds] 0, .row 28 8 (mail.map Msg.ds ++ [M'.ds]) 2]] (by kernel_rfl) (by kernel_rfl) rfl ?_ ?_
        · push_cast [tab18b]
          repeat' (first | refine And.intro ?_ ?_ | omega)
        push_cast
        refine ⟨⟨by omega, by omega⟩, ⟨A, P', mail ++ [M'], k + 1⟩, ⟨⟨hI'.symm, hA, hid, by simp; omega, by simp; omega⟩, by simp; omega⟩, rfl, ⟨⟨rfl, rfl, rfl⟩, rfl, rfl, rfl⟩, by rw [List.map_append]; rfl⟩
      · exact ⟨⟨by omega, by omega⟩, ⟨A, B, mail, k + 1⟩, ⟨⟨hI, hA, hB, Nat.le_succ_of_le hm, hk'⟩, by show l.length - (k + 1) < l.length - k; omega⟩, rfl, ⟨⟨rfl, rfl, rfl⟩, rfl, rfl, rfl⟩, rfl⟩
    have o0 : (l[k].v / 2 % 4 = 0) = False := eq_false (by assumption)
    have o1 : (l[k].v / 2 % 4 = 1) = False := eq_false (by assumption)
    push_cast [e1, hw, o0, o1]
    refine ⟨hk', ⟨by omega, by omega⟩, by omega, ⟨by omega, by omega⟩, by omega, fun h2 => ?_, fun h2 => ?_⟩
    · refine RegV.preA (E := [125, 1000019, 1000027, 1000029]) Tryd.mixed 12 [⟨14, 15, 67, [.d (.raw (.slice none 0 0)), .d (.raw (.slice none 0 0))]⟩] (by kernel_rfl) (by kernel_rfl) ?_ ?_
      · intro x hx
        simp only [List.mem_cons, List.not_mem_nil, or_false] at hx
        subst hx
        push_cast
      simp only [List.take_succ_cons, List.take_zero]
      push_cast
      refine ⟨⟨by omega, by omega⟩, ⟨by omega, by omega⟩, ⟨by omega, by omega⟩, CallX.q (c53 ⟨[A, B], mail⟩ (l[k].v / 8 % mail.length) (decide (l[k].v / 8192 = 7)) (Nat.le_succ_of_le (show 2 ≤ 999 by decide)) (by show mail.length ≤ 1000; omega) hcp hcm) ?_⟩
      generalize hN : delN ⟨[A, B], mail⟩ (l[k].v / 8 % mail.length) (decide (l[k].v / 8192 = 7)) = N
      generalize hE : delE ⟨[A, B], mail⟩ (l[k].v / 8 % mail.length) = eN
      push_cast
      refine ⟨fun hA' => ⟨⟨by omega, by omega⟩, ⟨by omega, by omega⟩, ⟨by omega, by omega⟩, CallX.q (c53 ⟨[A, B], mail⟩ (l[k].v / 8 % mail.length) (decide (l[k].v / 8192 = 7)) (Nat.le_succ_of_le (show 2 ≤ 999 by decide)) (by show mail.length ≤ 1000; omega) hcp hcm) ?_⟩, ?_⟩
      · rw [hN, hE]
        push_cast
      refine RestA.tab1 (E := [125, 1000019, 1000027, 1000029]) tab18c [([none, none, none, none, none, none, none, none, none, none, none, none, some (78, .agg (N.ds.map C.d)), some (79, .c (.d (.int .i64 eN))), some (15, .c (.loc 5 0)), none, some (16, .c (.d (.int .i64 eN)))], [none, none, none, none, none, none, none, none, none, none, none, none, none, none, some [.box 53 ((newP 1).ds.map C.d), .box 53 ((newP 2).ds.map C.d), .box 67 [.d (.lst 3 [A.ds, B.ds]), .d (.lst 8 (mail.map Msg.ds))], .box 53 (B.ds.map C.d), .box 28 (msg0.ds.map C.d), .box 67 [.d (.raw (.slice none 0 0)), .d (.raw (.slice none 0 0))]], some [.box 53 ((newP 1).ds.map C.d), .box 53 ((newP 2).ds.map C.d), .box 67 [.d (.lst 3 [A.ds, B.ds]), .d (.lst 8 (mail.map Msg.ds))], .box 53 (B.ds.map C.d), .box 28 (msg0.ds.map C.d), .box 67 (N.ds.map C.d)], none])] (by kernel_rfl) (by kernel_rfl) rfl rfl rfl ?_ ?_
      · push_cast [tab18c, msg0]
      push_cast [msg0]
      refine ⟨fun he => ?_, fun he => ?_⟩
      · obtain ⟨A', B', mail', q1, q2, q3, q4, q5⟩ := hI.del (l[k].v / 8 % mail.length) (decide (l[k].v / 8192 = 7)) (by rw [hE]; exact he)
        rw [hN] at q1
        subst q1
        exact ⟨⟨by omega, by omega⟩, ⟨A', B', mail', k + 1⟩, ⟨⟨q2, q4.trans hA, q5.trans hB, by show mail'.length ≤ k + 1; omega, hk'⟩, by show l.length - (k + 1) < l.length - k; omega⟩, rfl, rfl, rfl⟩
      · exact ⟨⟨by omega, by omega⟩, ⟨A, B, mail, k + 1⟩, ⟨⟨hI, hA, hB, Nat.le_succ_of_le hm, hk'⟩, by show l.length - (k + 1) < l.length - k; omega⟩, rfl, ⟨⟨rfl, rfl, rfl⟩, rfl, rfl, rfl⟩, rfl⟩
    · exact ⟨⟨by omega, by omega⟩, ⟨A, B, mail, k + 1⟩, ⟨⟨hI, hA, hB, Nat.le_succ_of_le hm, hk'⟩, by show l.length - (k + 1) < l.length - k; omega⟩, rfl, ⟨⟨rfl, rfl, rfl⟩, rfl, rfl, rfl⟩, rfl⟩
end Go.Proofs
