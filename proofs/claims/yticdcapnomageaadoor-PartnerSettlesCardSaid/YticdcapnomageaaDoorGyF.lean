/- Part of a proof about this program; no condition of its own. -/
import Derived.Test.YticdcapnomageaaDoorGyE
set_option linter.all false
/- The data of the chapter on partners, and what its functions compute, in plain Lean. No condition. -/
namespace Go.Il
open Go Go.Ax Go.Tx Go.Proofs
structure Partner where
  id : Int
  next : Int
  sides : List Side
  deriving DecidableEq
structure Net where
  partners : List Partner
  mail : List Msg
  deriving DecidableEq
def Partner.ds (p : Partner) : List D := [.int .i64 p.id, .int .i64 p.next, .lst 9 (p.sides.map Side.ds)]
def Net.ds (n : Net) : List D := [.lst 3 (n.partners.map Partner.ds), .lst 8 (n.mail.map Msg.ds)]
attribute [push_cast] Partner.ds Net.ds
def partner0 : Partner := ⟨0, 0, []⟩
def net0 : Net := ⟨[], []⟩
def isSide (role ptn req : Int) (s : Side) : Bool := decide (s.role = role ∧ s.ptn = ptn ∧ s.req = req)
def findN (l : List Side) (role ptn req : Int) : Nat := l.findIdx (isSide role ptn req)
def findI (l : List Side) (role ptn req : Int) : Int := if findN l role ptn req < l.length then (findN l role ptn req : Int) else -1
def checkF (id next : Int) (s : Side) : Int :=
  bif decide (sideF s ≠ 0) then sideF s else bif decide (s.ptn = id) || decide (s.role = 1 ∧ next ≤ s.req) then 1
  else bif s.sent.any (fun m => decide (m.frm ≠ id)) || s.early.any (fun m => decide (m.dst ≠ id)) then 1 else 0
def errAt (id next : Int) (l : List Side) (k : Nat) : Int :=
  match l[k]? with
  | none => 0
  | some s => bif decide (checkF id next s ≠ 0) then checkF id next s else bif decide (findN l s.role s.ptn s.req < k) then 7 else 0
def firstE (f : Nat → Int) : Nat → Nat → Int
  | _, 0 => 0
  | k, n + 1 => bif decide (f k ≠ 0) then f k else firstE f (k + 1) n
def prightF (p : Partner) : Int :=
  bif !(inB p.id 1 4 && inB p.next 1 10000) then 2 else bif decide (32 < p.sides.length) then 13 else firstE (errAt p.id p.next p.sides) 0 p.sides.length
def newE (id : Int) : Int := bif inB id 1 4 then 0 else 2
def newP (id : Int) : Partner := bif inB id 1 4 then ⟨id, 1, []⟩ else partner0
def setL (l : List Side) (i : Nat) (s : Side) : List Side := if i = l.length then l ++ [s] else l.set i s
def setF (p : Partner) (i : Nat) (s : Side) : Partner := ⟨p.id, p.next, setL p.sides i s⟩
def pAskE (p : Partner) (other rc dy : Int) : Int := bif decide (askE p.id p.next other rc dy ≠ 0) then askE p.id p.next other rc dy else bif decide (32 ≤ p.sides.length) then 13 else 0
def pAskP (p : Partner) (other rc dy : Int) : Partner := bif decide (pAskE p other rc dy = 0) then ⟨p.id, p.next + 1, p.sides ++ [askS p.id p.next other rc dy]⟩ else partner0
def pAskM (p : Partner) (other rc dy : Int) : Msg := bif decide (pAskE p other rc dy = 0) then askM p.id p.next other rc dy else msg0
def sayI (p : Partner) (other req kind : Int) : Nat := findN p.sides (ofF kind).role other req
def sayAt (p : Partner) (other req kind : Int) : Side := p.sides.getD (sayI p other req kind) side0
def pSayE (p : Partner) (other req kind day : Int) (note : List UInt8) : Int :=
  bif decide ((ofF kind).role = 0) then 1 else bif decide (p.sides.length ≤ sayI p other req kind) then 9 else sayE p.id (sayAt p other req kind) kind day note
def pSayP (p : Partner) (other req kind day : Int) (note : List UInt8) : Partner :=
  bif decide (pSayE p other req kind day note = 0) then setF p (sayI p other req kind) (sayS p.id (sayAt p other req kind) kind day note) else partner0
def pSayM (p : Partner) (other req kind day : Int) (note : List UInt8) : Msg :=
  bif decide (pSayE p other req kind day note = 0) then sayM p.id (sayAt p other req kind) kind day note else msg0
def hearI (p : Partner) (m : Msg) : Nat := findN p.sides (3 - (ofF m.kind).role) m.frm m.req
def hearAt (p : Partner) (m : Msg) : Side := p.sides.getD (hearI p m) (openS m)
def pHearE (p : Partner) (m : Msg) : Int :=
  bif decide (msgF m ≠ 0 ∨ m.dst ≠ p.id) then 1
  else bif decide (p.sides.length ≤ hearI p m) then (bif decide (3 - (ofF m.kind).role = 1) then 9 else bif decide (openE p.id m ≠ 0) then openE p.id m else bif decide (32 ≤ p.sides.length) then 13 else hearE p.id (openS m) m)
  else hearE p.id (hearAt p m) m
def pHearP (p : Partner) (m : Msg) : Partner := bif decide (pHearE p m = 0) then setF p (hearI p m) (hearS p.id (hearAt p m) m) else partner0
def againF (l : List Side) : List Msg := l.flatMap (·.sent)
def toI (n : Net) (m : Msg) : Nat := n.partners.findIdx fun p => decide (p.id = m.dst)
def delE (n : Net) (i : Int) : Int :=
  if h : 0 ≤ i ∧ i.toNat < n.mail.length then
    (if h' : toI n n.mail[i.toNat] < n.partners.length then pHearE n.partners[toI n n.mail[i.toNat]] n.mail[i.toNat] else 9)
  else 2
def delN (n : Net) (i : Int) (keep : Bool) : Net :=
  if h : 0 ≤ i ∧ i.toNat < n.mail.length then
    (if h' : toI n n.mail[i.toNat] < n.partners.length then
      (bif decide (pHearE n.partners[toI n n.mail[i.toNat]] n.mail[i.toNat] = 0) then ⟨n.partners.set (toI n n.mail[i.toNat]) (pHearP n.partners[toI n n.mail[i.toNat]] n.mail[i.toNat]), bif keep then n.mail else n.mail.eraseIdx i.toNat⟩ else net0)
    else net0)
  else net0
def differ (s t : Side) : Bool := decide (s.heard = t.sent.length ∧ t.heard = s.sent.length) && (decide (s.state ≠ t.state) || decide (s.rcd ≠ t.rcd) || decide (s.due ≠ t.due))
def fitAt (a b : Partner) (s : Side) : Bool :=
  decide (s.ptn ≠ b.id) || (decide (findN b.sides (3 - s.role) a.id s.req < b.sides.length) && !differ s (b.sides.getD (findN b.sides (3 - s.role) a.id s.req) side0))
def fitsP (a b : Partner) : Bool := a.sides.all (fitAt a b)
def agreeF (a b : Partner) : Bool := decide (a.id ≠ b.id) && fitsP a b && fitsP b a
def smallP (p : Partner) : Bool :=
  decide (p.sides.length ≤ 40) && p.sides.all fun s => decide (s.sent.length ≤ 30) && decide (s.early.length ≤ 30) && s.sent.all (fun m => decide (m.note.length ≤ 100)) && s.early.all fun m => decide (m.note.length ≤ 100)
theorem firstE_at (f : Nat → Int) : ∀ (n k j : Nat), j < n → (∀ i, i < j → f (k + i) = 0) → f (k + j) ≠ 0 → firstE f k n = f (k + j)
  | 0, _, _, h, _, _ => absurd h (by omega)
  | n + 1, k, 0, _, _, hf => by
    unfold firstE
    rw [decide_eq_true (show f k ≠ 0 from hf)]; rfl
  | n + 1, k, j + 1, h, h0, hf => by
    unfold firstE
    rw [decide_eq_false (show ¬ f k ≠ 0 from fun c => c (h0 0 (by omega)))]
    have e : k + (j + 1) = k + 1 + j := by omega
    rw [e]
    refine (firstE_at f n (k + 1) j (by omega) (fun i hi => ?_) (by rw [← e]; exact hf))
    rw [show k + 1 + i = k + (i + 1) by omega]; exact h0 (i + 1) (by omega)
theorem firstE_none (f : Nat → Int) : ∀ (n k : Nat), (∀ i, i < n → f (k + i) = 0) → firstE f k n = 0
  | 0, _, _ => rfl
  | n + 1, k, h => by
    unfold firstE
    rw [decide_eq_false (show ¬ f k ≠ 0 from fun c => c (h 0 (by omega)))]
    exact firstE_none f n (k + 1) fun i hi => by rw [show k + 1 + i = k + (i + 1) by omega]; exact h (i + 1) (by omega)
theorem firstE_zero (f : Nat → Int) : ∀ (n k : Nat), firstE f k n = 0 → ∀ i, i < n → f (k + i) = 0
  | 0, _, _, _, h => absurd h (by omega)
  | n + 1, k, h, i, hi => by
    unfold firstE at h
    by_cases c : f k ≠ 0
    · rw [decide_eq_true c] at h; exact absurd h c
    · rw [decide_eq_false c] at h
      cases i with
      | zero => exact Decidable.not_not.1 c
      | succ i => rw [show k + (i + 1) = k + 1 + i by omega]; exact firstE_zero f n (k + 1) h i (by omega)
theorem findN_le (l : List Side) (r p q : Int) : findN l r p q ≤ l.length := List.findIdx_le_length
theorem findN_at {l : List Side} {r p q : Int} (h : findN l r p q < l.length) : isSide r p q l[findN l r p q] = true := List.findIdx_getElem (w := h)
theorem findN_before {l : List Side} {r p q : Int} {i : Nat} (hi : i < findN l r p q) (hl : i < l.length) : isSide r p q l[i] = false := by
  have := List.not_of_lt_findIdx hi
  simpa using this
theorem findN_of {l : List Side} {r p q : Int} {i : Nat} (hl : i < l.length) (h : isSide r p q l[i] = true) (hb : ∀ j (hj : j < i), isSide r p q (l[j]'(by omega)) = false) : findN l r p q = i := by
  rcases Nat.lt_trichotomy (findN l r p q) i with h1 | h1 | h1
  · have := findN_at (l := l) (r := r) (p := p) (q := q) (by omega)
    rw [hb _ h1] at this; cases this
  · exact h1
  · rw [findN_before h1 hl] at h; cases h
theorem findN_none {l : List Side} {r p q : Int} (h : ∀ j (hj : j < l.length), isSide r p q l[j] = false) : findN l r p q = l.length := by
  by_cases h1 : findN l r p q < l.length
  · have := findN_at h1; rw [h _ h1] at this; cases this
  · have := findN_le l r p q; omega
theorem findN_self (l : List Side) (i : Nat) (h : i < l.length) : findN l l[i].role l[i].ptn l[i].req ≤ i := by
  rcases Nat.lt_or_ge i (findN l l[i].role l[i].ptn l[i].req) with h1 | h1
  · have := findN_before h1 h; simp [isSide] at this
  · exact h1
theorem findN_take (l : List Side) (r p q : Int) (k : Nat) : findN (l.take k) r p q = min k (findN l r p q) := by
  unfold findN
  induction l generalizing k with
  | nil => simp
  | cons x l ih =>
    cases k with
    | zero => simp
    | succ k =>
      rw [List.take_succ_cons, List.findIdx_cons, List.findIdx_cons]
      cases isSide r p q x with
      | true => simp
      | false => simp only [cond_false]; rw [ih]; omega
end Go.Il

/- Plain laws of partners: valid partners stay valid, and what is heard twice changes nothing. No condition. -/
namespace Go.Il
open Go Go.Ax Go.Tx Go.Proofs
def key (s : Side) : Int × Int × Int := (s.role, s.ptn, s.req)
theorem isSide_iff {r p q : Int} {s : Side} : isSide r p q s = true ↔ key s = (r, p, q) := by simp [isSide, key]
structure PV (p : Partner) : Prop where
  id : 1 ≤ p.id ∧ p.id ≤ 4
  next : 1 ≤ p.next ∧ p.next ≤ 10000
  len : p.sides.length ≤ 32
  chk : ∀ s ∈ p.sides, checkF p.id p.next s = 0
  uniq : (p.sides.map key).Nodup
theorem errAt_zero (id next : Int) (l : List Side) (k : Nat) (h : k < l.length) : errAt id next l k = 0 ↔ checkF id next l[k] = 0 ∧ ¬ findN l l[k].role l[k].ptn l[k].req < k := by
  unfold errAt
  rw [List.getElem?_eq_getElem h]
  simp only
  by_cases c : checkF id next l[k] = 0
  · rw [decide_eq_false (show ¬ checkF id next l[k] ≠ 0 from fun x => x c)]
    by_cases d : findN l l[k].role l[k].ptn l[k].req < k
    · rw [decide_eq_true d]; simp [c, d]
    · rw [decide_eq_false d]; simp [c, d]
  · rw [decide_eq_true (show checkF id next l[k] ≠ 0 from c)]; simp [c]
theorem nodup_find (l : List Side) : (l.map key).Nodup ↔ ∀ k (h : k < l.length), ¬ findN l l[k].role l[k].ptn l[k].req < k := by
  unfold List.Nodup
  rw [List.pairwise_iff_getElem]
  constructor
  · intro h k hk hf
    have := findN_at (l := l) (r := l[k].role) (p := l[k].ptn) (q := l[k].req) (by omega)
    rw [isSide_iff] at this
    exact h _ k (by simp; omega) (by simpa using hk) hf (by simp only [List.getElem_map]; exact this)
  · intro h i j hi hj hij e
    simp only [List.length_map] at hi hj
    simp only [List.getElem_map] at e
    refine h j hj ?_
    rcases Nat.lt_or_ge i (findN l l[j].role l[j].ptn l[j].req) with h1 | h1
    · have h2 := findN_before h1 hi
      rw [← Bool.not_eq_true, isSide_iff] at h2
      exact absurd e h2
    · omega
theorem pright_iff (p : Partner) : prightF p = 0 ↔ PV p := by
  have hb : (inB p.id 1 4 && inB p.next 1 10000) = true ↔ (1 ≤ p.id ∧ p.id ≤ 4) ∧ 1 ≤ p.next ∧ p.next ≤ 10000 := by simp [inB]
  unfold prightF
  by_cases c : (inB p.id 1 4 && inB p.next 1 10000) = true
  · rw [c]
    obtain ⟨c1, c2⟩ := hb.1 c
    simp only [Bool.not_true, cond_false]
    by_cases d : 32 < p.sides.length
    · rw [decide_eq_true d]
      exact ⟨fun h => absurd h (show ¬ (13 : Int) = 0 by decide), fun h => absurd h.len (by omega)⟩
    · rw [decide_eq_false d]
      simp only [cond_false]
      constructor
      · intro h
        have h0 : ∀ k (hk : k < p.sides.length), checkF p.id p.next p.sides[k] = 0 ∧ ¬ findN p.sides p.sides[k].role p.sides[k].ptn p.sides[k].req < k := fun k hk => by
          have := firstE_zero _ _ _ h k hk
          rw [Nat.zero_add] at this
          exact (errAt_zero _ _ _ _ hk).1 this
        refine ⟨c1, c2, by omega, fun s hs => ?_, (nodup_find _).2 fun k hk => (h0 k hk).2⟩
        obtain ⟨k, hk, rfl⟩ := List.getElem_of_mem hs
        exact (h0 k hk).1
      · intro h
        refine firstE_none _ _ _ fun k hk => ?_
        rw [Nat.zero_add]
        exact (errAt_zero _ _ _ _ hk).2 ⟨h.chk _ (List.getElem_mem hk), (nodup_find _).1 h.uniq k hk⟩
  · rw [Bool.not_eq_true] at c
    rw [c]
    refine ⟨fun h => absurd h (show ¬ (2 : Int) = 0 by decide), fun h => ?_⟩
    have := hb.2 ⟨h.id, h.next⟩
    rw [this] at c; cases c
theorem check_iff (id next : Int) (s : Side) : checkF id next s = 0 ↔ sideF s = 0 ∧ s.ptn ≠ id ∧ ¬ (s.role = 1 ∧ next ≤ s.req) ∧ (∀ m ∈ s.sent, m.frm = id) ∧ ∀ m ∈ s.early, m.dst = id := by
  unfold checkF
  by_cases c : sideF s = 0
  · rw [decide_eq_false (show ¬ sideF s ≠ 0 from fun h => h c)]
    simp only [cond_false]
    by_cases d : s.ptn = id
    · simp [d]
    · by_cases e : s.role = 1 ∧ next ≤ s.req
      · simp [d, e.1, e.2]
      · rw [decide_eq_false d, decide_eq_false e]
        simp only [Bool.or_self, cond_false]
        by_cases f : (s.sent.any (fun m => decide (m.frm ≠ id)) || s.early.any (fun m => decide (m.dst ≠ id))) = true
        · rw [f]
          refine ⟨fun h => absurd h (by decide), fun ⟨_, _, _, h1, h2⟩ => ?_⟩
          rw [Bool.or_eq_true, List.any_eq_true, List.any_eq_true] at f
          rcases f with ⟨m, hm, f⟩ | ⟨m, hm, f⟩
          · exact absurd (h1 m hm) (of_decide_eq_true f)
          · exact absurd (h2 m hm) (of_decide_eq_true f)
        · rw [Bool.not_eq_true] at f
          rw [f]
          rw [Bool.or_eq_false_iff, List.any_eq_false, List.any_eq_false] at f
          refine ⟨fun _ => ⟨c, d, e, fun m hm => ?_, fun m hm => ?_⟩, fun _ => rfl⟩
          · exact Decidable.not_not.1 fun h => f.1 m hm (decide_eq_true h)
          · exact Decidable.not_not.1 fun h => f.2 m hm (decide_eq_true h)
  · rw [decide_eq_true (show sideF s ≠ 0 from c)]; simp [c]
theorem check_next {id next : Int} {s : Side} (h : checkF id next s = 0) (n : Int) (hn : next ≤ n) : checkF id n s = 0 := by
  rw [check_iff] at h ⊢
  exact ⟨h.1, h.2.1, fun c => h.2.2.1 ⟨c.1, by omega⟩, h.2.2.2⟩
theorem setL_lt {l : List Side} {i : Nat} {s : Side} (h : i < l.length) : setL l i s = l.set i s := if_neg (by omega)
theorem setL_end {l : List Side} {s : Side} : setL l l.length s = l ++ [s] := if_pos rfl
theorem setL_at {l : List Side} {i : Nat} {s : Side} (h : i ≤ l.length) : i < (setL l i s).length ∧ (setL l i s)[i]? = some s := by
  rcases Nat.lt_or_ge i l.length with h1 | h1
  · rw [setL_lt h1]; simp [h1]
  · obtain rfl : i = l.length := by omega
    rw [setL_end]; simp
theorem setL_len {l : List Side} {i : Nat} {s : Side} : (setL l i s).length = if i = l.length then l.length + 1 else l.length := by
  unfold setL; split <;> simp
theorem setL_twice {l : List Side} {i : Nat} {s t : Side} (h : i ≤ l.length) : setL (setL l i s) i t = setL l i t := by
  rcases Nat.lt_or_ge i l.length with h1 | h1
  · rw [setL_lt h1, setL_lt h1, setL_lt (by simpa using h1)]; simp
  · obtain rfl : i = l.length := by omega
    rw [setL_end, setL_end, setL_lt (by simp)]; simp
theorem setL_self {l : List Side} {i : Nat} {s : Side} (h : i < l.length) (e : l[i]? = some s) : setL l i s = l := by
  rw [setL_lt h]
  rw [List.getElem?_eq_getElem h] at e
  injection e with e
  rw [← e]; simp
theorem mem_setL {l : List Side} {i : Nat} {s x : Side} (h : x ∈ setL l i s) : x = s ∨ x ∈ l := by
  unfold setL at h
  split at h
  · rcases List.mem_append.1 h with h | h
    · exact .inr h
    · exact .inl (List.mem_singleton.1 h)
  · rcases List.mem_or_eq_of_mem_set h with h | h
    · exact .inr h
    · exact .inl h
theorem findN_setL {l : List Side} {r p q : Int} {s : Side} (hs : key s = (r, p, q)) : findN (setL l (findN l r p q) s) r p q = findN l r p q := by
  have hle := findN_le l r p q
  obtain ⟨h1, h2⟩ := setL_at (s := s) hle
  refine findN_of h1 ?_ fun j hj => ?_
  · rw [List.getElem?_eq_getElem h1] at h2
    injection h2 with h2
    rw [h2]; exact isSide_iff.2 hs
  · have hb := findN_before hj (by omega)
    have e : (setL l (findN l r p q) s)[j]? = l[j]? := by
      unfold setL
      split
      · rw [List.getElem?_append_left (by omega)]
      · rw [List.getElem?_set_ne (by omega)]
    rw [List.getElem?_eq_getElem (by omega), List.getElem?_eq_getElem (show j < l.length by omega)] at e
    injection e with e
    rw [e]; exact hb
theorem key_none {l : List Side} {r p q : Int} (h : findN l r p q = l.length) : (r, p, q) ∉ l.map key := by
  intro c
  obtain ⟨s, hs, e⟩ := List.mem_map.1 c
  obtain ⟨i, hi, rfl⟩ := List.getElem_of_mem hs
  have := findN_before (l := l) (r := r) (p := p) (q := q) (by omega) hi
  rw [isSide_iff.2 e] at this; cases this
theorem PV.set {p : Partner} {i : Nat} {s : Side} (h : PV p) (hi : i < p.sides.length) (hk : key s = key p.sides[i]) (hc : checkF p.id p.next s = 0) : PV (setF p i s) := by
  refine ⟨h.id, h.next, ?_, ?_, ?_⟩
  · show (setL p.sides i s).length ≤ 32
    rw [setL_lt hi]; simpa using h.len
  · intro x hx
    rcases mem_setL hx with rfl | hx
    · exact hc
    · exact h.chk x hx
  · show ((setL p.sides i s).map key).Nodup
    rw [setL_lt hi, List.map_set, hk]
    have e : (p.sides.map key).set i (key p.sides[i]) = p.sides.map key := by
      have h1 : i < (p.sides.map key).length := by simpa using hi
      have h2 : key p.sides[i] = (p.sides.map key)[i] := by simp
      rw [h2]; exact List.set_getElem_self h1
    rw [e]; exact h.uniq
theorem PV.app {p : Partner} {s : Side} (h : PV p) (hl : p.sides.length < 32) (hk : key s ∉ p.sides.map key) (hc : checkF p.id p.next s = 0) : PV (setF p p.sides.length s) := by
  refine ⟨h.id, h.next, ?_, ?_, ?_⟩
  · show (setL p.sides p.sides.length s).length ≤ 32
    rw [setL_end]; simp; omega
  · intro x hx
    rcases mem_setL hx with rfl | hx
    · exact hc
    · exact h.chk x hx
  · show ((setL p.sides p.sides.length s).map key).Nodup
    rw [setL_end, List.map_append]
    refine List.nodup_append.2 ⟨h.uniq, by simp, fun a ha b hb e => ?_⟩
    rw [List.map_singleton, List.mem_singleton] at hb
    subst hb; subst e
    exact hk ha
theorem newP_right (id : Int) (h : newE id = 0) : PV (newP id) := by
  unfold newE at h
  unfold newP
  cases c : inB id 1 4 with
  | false => rw [c] at h; cases h
  | true =>
    simp [inB] at c
    exact ⟨c, ⟨show (1 : Int) ≤ 1 by decide, show (1 : Int) ≤ 10000 by decide⟩, Nat.zero_le _, fun s hs => (List.not_mem_nil hs).elim, List.nodup_nil⟩
theorem pask_right {p : Partner} {other rc dy : Int} (h : PV p) (e : pAskE p other rc dy = 0) : PV (pAskP p other rc dy) ∧ msgF (pAskM p other rc dy) = 0 ∧ pAskP p other rc dy = ⟨p.id, p.next + 1, p.sides ++ [askS p.id p.next other rc dy]⟩ ∧ pAskM p other rc dy = askM p.id p.next other rc dy := by
  have e0 : askE p.id p.next other rc dy = 0 := by
    unfold pAskE at e
    by_cases c : askE p.id p.next other rc dy = 0
    · exact c
    · rw [decide_eq_true (show askE p.id p.next other rc dy ≠ 0 from c)] at e; exact e
  have e1 : p.sides.length < 32 := by
    unfold pAskE at e
    rw [e0, decide_eq_false (show ¬ (0 : Int) ≠ 0 from fun h => h rfl)] at e
    by_cases c : 32 ≤ p.sides.length
    · rw [decide_eq_true c] at e; cases e
    · omega
  have eP : pAskP p other rc dy = ⟨p.id, p.next + 1, p.sides ++ [askS p.id p.next other rc dy]⟩ := by unfold pAskP; rw [decide_eq_true e]; rfl
  have eM : pAskM p other rc dy = askM p.id p.next other rc dy := by unfold pAskM; rw [decide_eq_true e]; rfl
  have eR : askR p.id p.next other rc dy = askS p.id p.next other rc dy := by unfold askR; rw [decide_eq_true e0]; rfl
  have hs := (ask_right _ _ _ _ _ e0).1
  rw [eR] at hs
  obtain ⟨hr, hp⟩ : (1 ≤ p.next ∧ p.next ≤ 9999) ∧ other ≠ p.id := by
    unfold askE at e0
    cases c : (inB p.id 1 4 && inB other 1 4 && inB p.next 1 9999 && inB rc 1 9999 && inB dy 0 109572) with
    | false => rw [c] at e0; cases e0
    | true =>
      rw [c] at e0
      simp [inB] at c
      refine ⟨c.1.1.2, fun d => ?_⟩
      rw [decide_eq_true d] at e0; cases e0
  have hm : msgF (askM p.id p.next other rc dy) = 0 := by
    obtain ⟨_, _, _, _, _, _, _, _, _, _, h3, _⟩ := side_val hs
    exact (by simpa [askS, sentL] using h3 : _ ∧ _).1
  refine ⟨?_, by rw [eM]; exact hm, eP, eM⟩
  rw [eP]
  refine ⟨h.id, ⟨by show 1 ≤ p.next + 1; omega, by show p.next + 1 ≤ 10000; omega⟩, ?_, ?_, ?_⟩
  · show (p.sides ++ [askS p.id p.next other rc dy]).length ≤ 32
    simp; omega
  · intro x hx
    rcases List.mem_append.1 hx with hx | hx
    · exact check_next (h.chk x hx) _ (by show p.next ≤ p.next + 1; omega)
    · rw [List.mem_singleton.1 hx, check_iff]
      refine ⟨hs, hp, fun c => ?_, fun m hm => ?_, fun m hm => (List.not_mem_nil hm).elim⟩
      · have := c.2; simp only [askS] at this; omega
      · rw [List.mem_singleton.1 hm]; rfl
  · show ((p.sides ++ [askS p.id p.next other rc dy]).map key).Nodup
    rw [List.map_append]
    refine List.nodup_append.2 ⟨h.uniq, by simp, fun a ha b hb ee => ?_⟩
    rw [List.map_singleton, List.mem_singleton] at hb
    subst hb; subst ee
    obtain ⟨x, hx, ee⟩ := List.mem_map.1 ha
    have := ((check_iff _ _ _).1 (h.chk x hx)).2.2.1
    simp only [key, askS, Prod.mk.injEq] at ee
    exact this ⟨ee.1, by omega⟩
/-- What Say needs of its side. -/
theorem psay_of {p : Partner} {other req kind day : Int} {note : List UInt8} (e : pSayE p other req kind day note = 0) :
    ∃ h : sayI p other req kind < p.sides.length, sayAt p other req kind = p.sides[sayI p other req kind] ∧ key p.sides[sayI p other req kind] = ((ofF kind).role, other, req) ∧ sayE p.id (sayAt p other req kind) kind day note = 0 := by
  unfold pSayE at e
  by_cases c : (ofF kind).role = 0
  · rw [decide_eq_true c] at e; cases e
  · rw [decide_eq_false c] at e
    by_cases d : p.sides.length ≤ sayI p other req kind
    · rw [decide_eq_true d] at e; cases e
    · rw [decide_eq_false d] at e
      refine ⟨by omega, ?_, isSide_iff.1 (findN_at (l := p.sides) (show findN p.sides (ofF kind).role other req < _ from by unfold sayI at d; omega)), e⟩
      unfold sayAt
      rw [List.getD_eq_getElem?_getD, List.getElem?_eq_getElem (show sayI p other req kind < _ by omega)]; rfl
theorem psay_right {p : Partner} {other req kind day : Int} {note : List UInt8} (h : PV p) (hS : ∀ s ∈ p.sides, SmN s) (hn : note.length ≤ 100) (e : pSayE p other req kind day note = 0) :
    PV (pSayP p other req kind day note) ∧ pSayP p other req kind day note = setF p (sayI p other req kind) (sayS p.id (sayAt p other req kind) kind day note) ∧ SmN (sayS p.id (sayAt p other req kind) kind day note) := by
  obtain ⟨hi, e1, hk, e0⟩ := psay_of e
  have eP : pSayP p other req kind day note = setF p (sayI p other req kind) (sayS p.id (sayAt p other req kind) kind day note) := by unfold pSayP; rw [decide_eq_true e]; rfl
  have hm : sayAt p other req kind ∈ p.sides := by rw [e1]; exact List.getElem_mem _
  obtain ⟨c1, c2, c3, c4, c5⟩ := (check_iff _ _ _).1 (h.chk _ hm)
  have eR : sayR p.id (sayAt p other req kind) kind day note = sayS p.id (sayAt p other req kind) kind day note := by unfold sayR; rw [decide_eq_true e0]; rfl
  obtain ⟨r1, r2⟩ := say_right p.id _ kind day note c1 (hS _ hm) hn e0
  rw [eR] at r1 r2
  refine ⟨?_, eP, r2⟩
  rw [eP]
  refine h.set hi ?_ ((check_iff _ _ _).2 ⟨r1, c2, c3, fun m hm' => ?_, c5⟩)
  · rw [← e1]; rfl
  · rcases List.mem_append.1 (show m ∈ (sayAt p other req kind).sent ++ [sayM p.id (sayAt p other req kind) kind day note] from hm') with hm' | hm'
    · exact c4 m hm'
    · rw [List.mem_singleton.1 hm']; rfl
theorem again_set (l : List Side) (i : Nat) (s : Side) (h : i < l.length) (hs : s.sent.length = l[i].sent.length + 1) : (againF (l.set i s)).length = (againF l).length + 1 := by
  unfold againF
  rw [List.set_eq_take_append_cons_drop, if_pos h]
  conv => rhs; rw [← List.take_append_drop i l, List.drop_eq_getElem_cons h]
  simp only [List.flatMap_append, List.flatMap_cons, List.length_append]
  omega
theorem psay_again {p : Partner} {other req kind day : Int} {note : List UInt8} (e : pSayE p other req kind day note = 0) :
    (againF (pSayP p other req kind day note).sides).length = (againF p.sides).length + 1 := by
  obtain ⟨hi, e1, hk, e0⟩ := psay_of e
  have eP : pSayP p other req kind day note = setF p (sayI p other req kind) (sayS p.id (sayAt p other req kind) kind day note) := by unfold pSayP; rw [decide_eq_true e]; rfl
  rw [eP]
  show (againF (setL p.sides _ _)).length = _
  rw [setL_lt hi]
  refine again_set _ _ _ hi ?_
  rw [← e1]
  show ((sayAt p other req kind).sent ++ [sayM p.id (sayAt p other req kind) kind day note]).length = _
  simp
theorem drain_early : ∀ (l : List Msg) (s : Side) (x : Msg), x ∈ (Go.Proofs.drain s l).early → x ∈ l
  | [], s, x, h => by simpa [Go.Proofs.drain] using h
  | m :: r, s, x, h => by
    unfold Go.Proofs.drain at h
    split at h
    · exact List.mem_cons_of_mem _ (drain_early r _ x h)
    · exact h
theorem hear_early {id : Int} {s : Side} {m : Msg} (h : hearE id s m = 0) : ∀ x ∈ (hearS id s m).early, x = m ∨ x ∈ s.early := by
  intro x hx
  have hf : fitsF id s m = true := by
    cases c : fitsF id s m with
    | true => rfl
    | false => simp [hearE, c] at h
  by_cases h1 : m.seq ≤ s.heard
  · rw [(hearS_le hf h1).1] at hx; exact .inr hx
  · by_cases h2 : s.heard + 1 < m.seq
    · rw [(hearS_gt hf h2).1] at hx
      rw [(hearS_gt hf h2).2] at h
      cases c : atN s.early m.seq with
      | true => rw [(keep_at c).1] at hx; exact .inr hx
      | false => rw [keep_ins c h] at hx; exact mem_insL hx
    · rw [(hearS_eq hf (by omega)).1] at hx
      exact .inr (drain_early _ _ x hx)
/-- What Hear needs of its side. -/
theorem phear_of {p : Partner} {m : Msg} (h : PV p) (e : pHearE p m = 0) :
    hearE p.id (hearAt p m) m = 0 ∧ msgF m = 0 ∧ m.dst = p.id ∧ key (hearAt p m) = (3 - (ofF m.kind).role, m.frm, m.req) ∧ checkF p.id p.next (hearAt p m) = 0 ∧ (p.sides.length ≤ hearI p m → p.sides.length < 32 ∧ hearAt p m = openS m ∧ openE p.id m = 0) ∧ (∀ h : hearI p m < p.sides.length, hearAt p m = p.sides[hearI p m]) := by
  unfold pHearE at e
  by_cases c : msgF m ≠ 0 ∨ m.dst ≠ p.id
  · rw [decide_eq_true c] at e; cases e
  rw [decide_eq_false c] at e
  rw [not_or, Decidable.not_not, Decidable.not_not] at c
  obtain ⟨c1, c2⟩ := c
  by_cases d : p.sides.length ≤ hearI p m
  · rw [decide_eq_true d] at e
    simp only [cond_true, cond_false] at e
    by_cases f : 3 - (ofF m.kind).role = 1
    · rw [decide_eq_true f] at e; cases e
    rw [decide_eq_false f] at e
    by_cases g : openE p.id m = 0
    · rw [g, decide_eq_false (show ¬ (0 : Int) ≠ 0 from fun h => h rfl)] at e
      by_cases k : 32 ≤ p.sides.length
      · rw [decide_eq_true k] at e; cases e
      rw [decide_eq_false k] at e
      have hA : hearAt p m = openS m := by
        unfold hearAt
        rw [List.getD_eq_getElem?_getD, List.getElem?_eq_none d]; rfl
      have hR : openR p.id m = openS m := by unfold openR; rw [g]; rfl
      have ho := (open_right p.id m g).1
      rw [hR] at ho
      have hrole : (ofF m.kind).role = 1 := by
        unfold openE at g
        by_cases q : msgF m ≠ 0 ∨ m.dst ≠ p.id ∨ (ofF m.kind).role ≠ 1
        · rw [decide_eq_true q] at g; cases g
        · exact Decidable.not_not.1 fun x => q (.inr (.inr x))
      refine ⟨by rw [hA]; exact e, c1, c2, by rw [hA, hrole]; rfl, ?_, fun _ => ⟨by omega, hA, g⟩, fun h => absurd h (by omega)⟩
      rw [hA, check_iff]
      refine ⟨ho, ?_, fun x => absurd x.1 (show ¬ (2 : Int) = 1 by decide), fun x hx => (List.not_mem_nil hx).elim, fun x hx => (List.not_mem_nil hx).elim⟩
      have := (msg_val c1).2.2.1
      show m.frm ≠ p.id
      omega
    · rw [decide_eq_true (show openE p.id m ≠ 0 from g)] at e; exact absurd e g
  · rw [decide_eq_false d] at e
    have hA : hearAt p m = p.sides[hearI p m]'(by omega) := by
      unfold hearAt
      rw [List.getD_eq_getElem?_getD, List.getElem?_eq_getElem (show hearI p m < _ by omega)]; rfl
    refine ⟨e, c1, c2, ?_, ?_, fun h => absurd h d, fun _ => hA⟩
    · rw [hA]
      exact isSide_iff.1 (findN_at (l := p.sides) (show findN p.sides (3 - (ofF m.kind).role) m.frm m.req < _ from by unfold hearI at d; omega))
    · rw [hA]; exact h.chk _ (List.getElem_mem _)
theorem phear_right {p : Partner} {m : Msg} (h : PV p) (hS : ∀ s ∈ p.sides, SmN s) (hn : m.note.length ≤ 100) (e : pHearE p m = 0) :
    PV (pHearP p m) ∧ pHearP p m = setF p (hearI p m) (hearS p.id (hearAt p m) m) ∧ SmN (hearAt p m) ∧ key (hearS p.id (hearAt p m) m) = (3 - (ofF m.kind).role, m.frm, m.req) ∧ SmN (hearS p.id (hearAt p m) m) := by
  obtain ⟨e0, c1, c2, hk, hc, ha, hb⟩ := phear_of h e
  have hle : hearI p m ≤ p.sides.length := findN_le _ _ _ _
  have eP : pHearP p m = setF p (hearI p m) (hearS p.id (hearAt p m) m) := by unfold pHearP; rw [decide_eq_true e]; rfl
  have hSm : SmN (hearAt p m) := by
    rcases Nat.lt_or_ge (hearI p m) p.sides.length with d | d
    · rw [hb d]; exact hS _ (List.getElem_mem _)
    · rw [(ha d).2.1]
      exact ⟨Nat.zero_le _, Nat.zero_le _, fun x hx => (List.not_mem_nil hx).elim, fun x hx => (List.not_mem_nil hx).elim⟩
  obtain ⟨q1, q2, q3, q4, q5⟩ := (check_iff _ _ _).1 hc
  obtain ⟨r0, r1, r2, r3, r4, r5, r6, r7⟩ := hear_right q1 hSm hn e0
  have hk' : key (hearS p.id (hearAt p m) m) = key (hearAt p m) := by unfold key; rw [r3, r4, r5]
  have hc' : checkF p.id p.next (hearS p.id (hearAt p m) m) = 0 := by
    rw [check_iff]
    refine ⟨r1, by rw [r4]; exact q2, by rw [r5, r3]; exact q3, by rw [r2]; exact q4, fun x hx => ?_⟩
    rcases hear_early e0 x hx with rfl | hx
    · exact c2
    · exact q5 x hx
  refine ⟨?_, eP, hSm, by rw [hk', hk], r7⟩
  rw [eP]
  rcases Nat.lt_or_ge (hearI p m) p.sides.length with d | d
  · exact h.set d (by rw [hk', hb d]) hc'
  · have d' : hearI p m = p.sides.length := by omega
    rw [d']
    refine h.app (ha d).1 ?_ hc'
    rw [hk', hk]
    exact key_none d'
theorem phear_twice {p : Partner} {m : Msg} (h : PV p) (hS : ∀ s ∈ p.sides, SmN s) (hn : m.note.length ≤ 100) (e : pHearE p m = 0) :
    pHearE (pHearP p m) m = 0 ∧ pHearP (pHearP p m) m = pHearP p m := by
  obtain ⟨e0, c1, c2, hk, hc, ha, hb⟩ := phear_of h e
  obtain ⟨hV, eP, hSm, hk', _⟩ := phear_right h hS hn e
  have hle : hearI p m ≤ p.sides.length := findN_le _ _ _ _
  obtain ⟨t1, t2⟩ := hear_twice ((check_iff _ _ _).1 hc).1 hSm hn e0
  have hid : (pHearP p m).id = p.id := by rw [eP]; rfl
  have hsd : (pHearP p m).sides = setL p.sides (hearI p m) (hearS p.id (hearAt p m) m) := by rw [eP]; rfl
  have hI : hearI (pHearP p m) m = hearI p m := by
    unfold hearI
    rw [hsd]; exact findN_setL hk'
  obtain ⟨hl, hat⟩ := setL_at (s := hearS p.id (hearAt p m) m) hle
  have hA : hearAt (pHearP p m) m = hearS p.id (hearAt p m) m := by
    unfold hearAt
    rw [hI, hsd, List.getD_eq_getElem?_getD, hat]; rfl
  have hE : pHearE (pHearP p m) m = 0 := by
    unfold pHearE
    rw [hI, hA, hid, hsd]
    rw [decide_eq_false (show ¬ (msgF m ≠ 0 ∨ m.dst ≠ p.id) from fun x => x.elim (fun y => y c1) fun y => y c2)]
    rw [decide_eq_false (show ¬ (setL p.sides (hearI p m) (hearS p.id (hearAt p m) m)).length ≤ hearI p m by omega)]
    exact t1
  refine ⟨hE, ?_⟩
  have e2 : pHearP (pHearP p m) m = setF (pHearP p m) (hearI (pHearP p m) m) (hearS (pHearP p m).id (hearAt (pHearP p m) m) m) := by rw [pHearP, decide_eq_true hE]; rfl
  rw [e2, hI, hA, hid, t2]
  show setF (pHearP p m) (hearI p m) (hearS p.id (hearAt p m) m) = pHearP p m
  rw [eP]
  show (⟨p.id, p.next, setL (setL _ _ _) _ _⟩ : Partner) = ⟨p.id, p.next, setL _ _ _⟩
  rw [setL_twice hle]
end Go.Il

/- Two partners and one request: where both sides may stand, and what is under way between them. No condition. -/
namespace Go.Il
open Go Go.Ax Go.Tx Go.Proofs
structure Cls where
  b : Int
  l : Int
  P : List Int
  Q : List Int
  deriving DecidableEq
def tabC : List Cls := [⟨1, 0, [], [1]⟩, ⟨9, 0, [], [1, 11]⟩, ⟨1, 1, [], []⟩, ⟨9, 1, [], [11]⟩, ⟨1, 2, [2], []⟩, ⟨1, 8, [3], []⟩, ⟨9, 2, [2], [11]⟩, ⟨9, 8, [3], [11]⟩, ⟨9, 9, [], []⟩, ⟨1, 3, [2, 4], []⟩, ⟨2, 2, [], []⟩, ⟨8, 8, [], []⟩, ⟨9, 3, [2, 4], [11]⟩, ⟨9, 2, [], [11]⟩, ⟨9, 9, [2], []⟩, ⟨8, 8, [], [11]⟩, ⟨9, 8, [3], []⟩, ⟨2, 3, [4], []⟩, ⟨9, 3, [4], [11]⟩, ⟨9, 3, [2, 4], []⟩, ⟨3, 3, [], []⟩, ⟨3, 3, [], [11]⟩, ⟨9, 3, [4], []⟩, ⟨4, 3, [], [5]⟩, ⟨4, 3, [], [11, 5]⟩, ⟨5, 3, [], [5, 6]⟩, ⟨6, 3, [], [5, 9]⟩, ⟨4, 4, [], []⟩, ⟨5, 3, [], [11, 5, 6]⟩, ⟨6, 3, [], [11, 5, 9]⟩, ⟨5, 4, [], [6]⟩, ⟨6, 4, [], [9]⟩, ⟨5, 5, [], []⟩, ⟨6, 6, [], []⟩, ⟨5, 4, [7], []⟩, ⟨6, 7, [10], []⟩, ⟨7, 7, [], []⟩]
def stB (s k : Int) : Int := if (ofF k).state ≠ 0 then (ofF k).state else s
def stT (s k : Int) : Int := if hasF (ofF k).taken s = true then stB s k else s
def allK : List Int := [1, 2, 3, 4, 5, 6, 7, 8, 9, 10, 11]
def okBs : Bool := tabC.all fun c => allK.all fun k => !allowF 1 c.b k || (tabC.contains ⟨stB c.b k, c.l, c.P, c.Q ++ [k]⟩ && decide ((ofF k).due = 0) && decide (k ≠ 1))
def okLs : Bool := tabC.all fun c => allK.all fun k => !allowF 2 c.l k || tabC.contains ⟨c.b, stB c.l k, if k = 8 then c.P else c.P ++ [k], c.Q⟩
def okBt : Bool := tabC.all fun c => match c.P with
  | [] => true
  | k :: P => tabC.contains ⟨stT c.b k, c.l, P, c.Q⟩ && decide (k ≠ 1) && (decide ((ofF k).due = 0) || hasF (ofF k).taken c.b)
def okLt : Bool := tabC.all fun c => match c.Q with
  | [] => true
  | k :: Q => tabC.contains ⟨c.b, stT c.l k, c.P, Q⟩ && decide (k ≠ 8) && decide ((ofF k).due = 0) && (decide (k ≠ 1) || hasF (ofF k).taken c.l)
def okEq : Bool := tabC.all fun c => !(c.P.isEmpty && c.Q.isEmpty) || decide (c.b = c.l)
theorem tab_bs : okBs = true := by kernel_rfl
theorem tab_ls : okLs = true := by kernel_rfl
theorem tab_bt : okBt = true := by kernel_rfl
theorem tab_lt : okLt = true := by kernel_rfl
theorem tab_eq : okEq = true := by kernel_rfl
theorem allow_kind {r s k : Int} (h : allowF r s k = true) : k ∈ allK := by
  rcases of_cases k with ⟨e, _⟩ | h1
  · simp [allowF, e, kd0, hasF] at h
  · rcases h1 with rfl | rfl | rfl | rfl | rfl | rfl | rfl | rfl | rfl | rfl | rfl <;> decide
theorem bs_tab {c : Cls} {k : Int} (h : c ∈ tabC) (ha : allowF 1 c.b k = true) : (⟨stB c.b k, c.l, c.P, c.Q ++ [k]⟩ : Cls) ∈ tabC ∧ (ofF k).due = 0 ∧ k ≠ 1 := by
  have := List.all_eq_true.1 (List.all_eq_true.1 tab_bs c h) k (allow_kind ha)
  rw [ha, Bool.not_true, Bool.false_or, Bool.and_eq_true, Bool.and_eq_true, decide_eq_true_eq, decide_eq_true_eq] at this
  exact ⟨List.contains_iff_mem.1 this.1.1, this.1.2, this.2⟩
theorem ls_tab {c : Cls} {k : Int} (h : c ∈ tabC) (ha : allowF 2 c.l k = true) : (⟨c.b, stB c.l k, if k = 8 then c.P else c.P ++ [k], c.Q⟩ : Cls) ∈ tabC := by
  have := List.all_eq_true.1 (List.all_eq_true.1 tab_ls c h) k (allow_kind ha)
  rw [ha, Bool.not_true, Bool.false_or] at this
  exact List.contains_iff_mem.1 this
theorem bt_tab {b l k : Int} {P Q : List Int} (h : (⟨b, l, k :: P, Q⟩ : Cls) ∈ tabC) : (⟨stT b k, l, P, Q⟩ : Cls) ∈ tabC ∧ k ≠ 1 ∧ ((ofF k).due = 0 ∨ hasF (ofF k).taken b = true) := by
  have := List.all_eq_true.1 tab_bt _ h
  simp only [Bool.and_eq_true, decide_eq_true_eq, Bool.or_eq_true] at this
  exact ⟨List.contains_iff_mem.1 this.1.1, this.1.2, this.2⟩
theorem lt_tab {b l k : Int} {P Q : List Int} (h : (⟨b, l, P, k :: Q⟩ : Cls) ∈ tabC) : (⟨b, stT l k, P, Q⟩ : Cls) ∈ tabC ∧ k ≠ 8 ∧ (ofF k).due = 0 ∧ (k ≠ 1 ∨ hasF (ofF k).taken l = true) := by
  have := List.all_eq_true.1 tab_lt _ h
  simp only [Bool.and_eq_true, decide_eq_true_eq, Bool.or_eq_true] at this
  exact ⟨List.contains_iff_mem.1 this.1.1.1, this.1.1.2, this.1.2, this.2⟩
theorem eq_tab {b l : Int} (h : (⟨b, l, [], []⟩ : Cls) ∈ tabC) : b = l := by
  have := List.all_eq_true.1 tab_eq _ h
  simpa using this
def dueF (d : Int) (m : Msg) : Int := if (ofF m.kind).due = 1 then m.day else if (ofF m.kind).due = 2 then imin d m.day else d
def dues (d : Int) (l : List Msg) : Int := l.foldl dueF d
def kindsQ (l : List Msg) (n : Nat) : List Int := (l.drop n).map Msg.kind
def kindsP (l : List Msg) (n : Nat) : List Int := ((l.drop n).map Msg.kind).filter fun k => decide (k ≠ 8)
/-- A message of a list, at its own number's place. -/
def At (l : List Msg) (m : Msg) : Prop := 1 ≤ m.seq ∧ l[(m.seq - 1).toNat]? = some m
theorem At.app {l : List Msg} {m : Msg} (h : At l m) (r : List Msg) : At (l ++ r) m := by
  refine ⟨h.1, ?_⟩
  have hl := (List.getElem?_eq_some_iff.1 h.2).1
  rw [List.getElem?_append_left hl]; exact h.2
structure Rel (s t : Side) : Prop where
  hs : 0 ≤ s.heard ∧ s.heard.toNat ≤ t.sent.length
  ht : 0 ≤ t.heard ∧ t.heard.toNat ≤ s.sent.length
  cls : (⟨s.state, t.state, kindsP t.sent s.heard.toNat, kindsQ s.sent t.heard.toNat⟩ : Cls) ∈ tabC
  due : dues s.due (t.sent.drop s.heard.toNat) = t.due
  rcd : t.heard ≠ 0 → t.rcd = s.rcd
  ask0 : ∃ m r, s.sent = m :: r ∧ m.kind = 1
  ask : ∀ m ∈ s.sent, m.kind = 1 → m.rcd = s.rcd
  es : ∀ m ∈ s.early, At t.sent m
  et : ∀ m ∈ t.early, At s.sent m
theorem say_allow {id : Int} {s : Side} {kind day : Int} {note : List UInt8} (h : sayE id s kind day note = 0) : allowF s.role s.state kind = true := by
  cases c : allowF s.role s.state kind with
  | true => rfl
  | false => rw [sayE, c] at h; cases h
theorem Rel.bsay {s t : Side} (h : Rel s t) (hr : s.role = 1) {id kind day : Int} {note : List UInt8} (e : sayE id s kind day note = 0) : Rel (sayS id s kind day note) t := by
  have ha := say_allow e
  rw [hr] at ha
  obtain ⟨t1, t2, t3⟩ := bs_tab h.cls ha
  have eq : (sayS id s kind day note).sent = s.sent ++ [sayM id s kind day note] := rfl
  have ed : (sayS id s kind day note).due = s.due := by
    show (if (ofF kind).due = 1 then day else if (ofF kind).due = 2 then imin s.due day else s.due) = s.due
    rw [t2]; rfl
  refine ⟨h.hs, ⟨h.ht.1, by rw [eq, List.length_append]; have := h.ht.2; omega⟩, ?_, ?_, h.rcd, ?_, ?_, h.es, fun m hm => by rw [eq]; exact (h.et m hm).app _⟩
  · have : kindsQ (sayS id s kind day note).sent t.heard.toNat = kindsQ s.sent t.heard.toNat ++ [kind] := by
      unfold kindsQ
      rw [eq, List.drop_append_of_le_length h.ht.2, List.map_append]; rfl
    rw [this]; exact t1
  · rw [ed]; exact h.due
  · obtain ⟨m, r, h1, h2⟩ := h.ask0
    exact ⟨m, r ++ [sayM id s kind day note], by rw [eq, h1]; rfl, h2⟩
  · intro m hm hk
    rw [eq] at hm
    rcases List.mem_append.1 hm with hm | hm
    · exact h.ask m hm hk
    · rw [List.mem_singleton.1 hm] at hk
      exact absurd hk t3
theorem Rel.lsay {s t : Side} (h : Rel s t) (hr : t.role = 2) {id kind day : Int} {note : List UInt8} (e : sayE id t kind day note = 0) : Rel s (sayS id t kind day note) := by
  have ha := say_allow e
  rw [hr] at ha
  have t1 := ls_tab h.cls ha
  have eq : (sayS id t kind day note).sent = t.sent ++ [sayM id t kind day note] := rfl
  refine ⟨⟨h.hs.1, by rw [eq, List.length_append]; have := h.hs.2; omega⟩, h.ht, ?_, ?_, h.rcd, h.ask0, h.ask, fun m hm => by rw [eq]; exact (h.es m hm).app _, h.et⟩
  · have : kindsP (sayS id t kind day note).sent s.heard.toNat = if kind = 8 then kindsP t.sent s.heard.toNat else kindsP t.sent s.heard.toNat ++ [kind] := by
      unfold kindsP
      rw [eq, List.drop_append_of_le_length h.hs.2, List.map_append, List.filter_append]
      show _ ++ List.filter _ [kind] = _
      by_cases c : kind = 8
      · rw [if_pos c, List.filter_cons_of_neg (by simp [c])]; simp
      · rw [if_neg c, List.filter_cons_of_pos (by simp [c])]; simp
    rw [this]; exact t1
  · rw [eq, List.drop_append_of_le_length h.hs.2]
    unfold dues
    rw [List.foldl_append]
    show dueF (dues s.due _) _ = _
    rw [h.due]; rfl
theorem take_parts (s : Side) (m : Msg) : (takeF s m).state = (if m.kind = 8 then s.state else stT s.state m.kind) ∧ (takeF s m).due = (if m.kind = 8 ∨ hasF (ofF m.kind).taken s.state = true then dueF s.due m else s.due) ∧
    (takeF s m).rcd = (if hasF (ofF m.kind).taken s.state = true ∧ m.kind = 1 then m.rcd else s.rcd) := by
  by_cases c : m.kind = 8
  · have e8 : (ofF m.kind).state = 0 := by rw [c]; rfl
    have e : takeF s m = becomeF { s with heard := s.heard + 1 } m.kind m.day := by
      simp only [takeF]
      rw [if_pos (.inl c), if_neg (by omega)]
    rw [e, if_pos c, if_pos (.inl c), if_neg (by omega)]
    refine ⟨?_, rfl, rfl⟩
    show (if (ofF m.kind).state ≠ 0 then (ofF m.kind).state else s.state) = s.state
    rw [if_neg (by omega)]
  · by_cases d : hasF (ofF m.kind).taken s.state = true
    · rw [if_neg c, if_pos (.inr d), stT, if_pos d]
      simp only [takeF]
      rw [if_pos (.inr d)]
      by_cases f : m.kind = 1
      · rw [if_pos f, if_pos ⟨d, f⟩]; exact ⟨rfl, rfl, rfl⟩
      · rw [if_neg f, if_neg (fun x => f x.2)]; exact ⟨rfl, rfl, rfl⟩
    · rw [if_neg c, if_neg (not_or.2 ⟨c, d⟩), if_neg (fun x => d x.1), stT, if_neg d]
      simp only [takeF]
      rw [if_neg (not_or.2 ⟨c, d⟩)]
      exact ⟨rfl, rfl, rfl⟩
theorem drop_next {l : List Msg} {n : Int} {m : Msg} (h : 0 ≤ n) (hm : At l m) (e : m.seq = n + 1) : l.drop n.toNat = m :: l.drop (n + 1).toNat ∧ (n + 1).toNat ≤ l.length := by
  obtain ⟨_, h2⟩ := hm
  rw [show (m.seq - 1).toNat = n.toNat by omega] at h2
  obtain ⟨h3, h4⟩ := List.getElem?_eq_some_iff.1 h2
  rw [show (n + 1).toNat = n.toNat + 1 by omega, List.drop_eq_getElem_cons h3, h4]
  exact ⟨rfl, by omega⟩
theorem Rel.ltake {s t : Side} {m : Msg} (h : Rel s t) (hm : At s.sent m) (e : m.seq = t.heard + 1) : Rel s (takeF t m) := by
  obtain ⟨d1, d2⟩ := drop_next h.ht.1 hm e
  obtain ⟨p1, p2, p3⟩ := take_parts t m
  obtain ⟨q1, q2, q3, _, _, _⟩ := take_heard t m
  have hq : kindsQ s.sent t.heard.toNat = m.kind :: kindsQ s.sent (t.heard + 1).toNat := by unfold kindsQ; rw [d1]; rfl
  have hc := h.cls
  rw [hq] at hc
  obtain ⟨t1, t2, t3, t4⟩ := lt_tab hc
  have hms : m ∈ s.sent := List.mem_of_getElem? hm.2
  have := h.ht.1
  refine ⟨by rw [q3]; exact h.hs, by rw [q1]; exact ⟨by omega, d2⟩, ?_, ?_, fun _ => ?_, h.ask0, h.ask, by rw [q3]; exact h.es, by rw [q2]; exact h.et⟩
  · rw [q1, q3, p1, if_neg t2]; exact t1
  · rw [q3, p2]
    have : dueF t.due m = t.due := by unfold dueF; rw [t3]; rfl
    rw [this, ite_self]; exact h.due
  · rw [p3]
    by_cases c : m.kind = 1
    · rw [if_pos ⟨t4.resolve_left fun x => x c, c⟩]
      exact h.ask m hms c
    · rw [if_neg (fun x => c x.2)]
      refine h.rcd fun z => c ?_
      obtain ⟨m', r, a1, a2⟩ := h.ask0
      have := hm.2
      rw [show (m.seq - 1).toNat = 0 by omega, a1] at this
      injection this with this
      rw [← this]; exact a2
theorem Rel.btake {s t : Side} {m : Msg} (h : Rel s t) (hm : At t.sent m) (e : m.seq = s.heard + 1) : Rel (takeF s m) t := by
  obtain ⟨d1, d2⟩ := drop_next h.hs.1 hm e
  obtain ⟨p1, p2, p3⟩ := take_parts s m
  obtain ⟨q1, q2, q3, _, _, _⟩ := take_heard s m
  have := h.hs.1
  have hdue := h.due
  rw [d1] at hdue
  have hdue : dues (dueF s.due m) (t.sent.drop (s.heard + 1).toNat) = t.due := hdue
  by_cases c : m.kind = 8
  · have hp : kindsP t.sent s.heard.toNat = kindsP t.sent (s.heard + 1).toNat := by
      unfold kindsP; rw [d1, List.map_cons, List.filter_cons_of_neg (by simp [c])]
    have hc := h.cls
    rw [hp] at hc
    rw [if_pos c] at p1
    rw [if_pos (.inl c)] at p2
    rw [if_neg (by omega)] at p3
    exact ⟨by rw [q1]; exact ⟨by omega, d2⟩, by rw [q3]; exact h.ht, by rw [q1, q3, p1]; exact hc, by rw [q1, p2]; exact hdue, by rw [p3]; exact h.rcd, by rw [q3]; exact h.ask0, by rw [q3, p3]; exact h.ask, by rw [q2]; exact h.es, by rw [q3]; exact h.et⟩
  · have hp : kindsP t.sent s.heard.toNat = m.kind :: kindsP t.sent (s.heard + 1).toNat := by
      unfold kindsP; rw [d1, List.map_cons, List.filter_cons_of_pos (by simp [c])]
    have hc := h.cls
    rw [hp] at hc
    obtain ⟨t1, t2, t3⟩ := bt_tab hc
    rw [if_neg c] at p1
    rw [if_neg (fun x => t2 x.2)] at p3
    have p2' : (takeF s m).due = dueF s.due m := by
      rw [p2]
      rcases t3 with t3 | t3
      · have : dueF s.due m = s.due := by unfold dueF; rw [t3]; rfl
        rw [this, ite_self]
      · rw [if_pos (.inr t3)]
    exact ⟨by rw [q1]; exact ⟨by omega, d2⟩, by rw [q3]; exact h.ht, by rw [q1, q3, p1]; exact t1, by rw [q1, p2']; exact hdue, by rw [p3]; exact h.rcd, by rw [q3]; exact h.ask0, by rw [q3, p3]; exact h.ask, by rw [q2]; exact h.es, by rw [q3]; exact h.et⟩
theorem Rel.bearly {s t : Side} (h : Rel s t) {l : List Msg} (hl : ∀ m ∈ l, At t.sent m) : Rel { s with early := l } t := ⟨h.hs, h.ht, h.cls, h.due, h.rcd, h.ask0, h.ask, hl, h.et⟩
theorem Rel.learly {s t : Side} (h : Rel s t) {l : List Msg} (hl : ∀ m ∈ l, At s.sent m) : Rel s { t with early := l } := ⟨h.hs, h.ht, h.cls, h.due, h.rcd, h.ask0, h.ask, h.es, hl⟩
theorem drain_keeps (R : Side → Prop) (L : List Msg) (h1 : ∀ s m, R s → At L m → m.seq = s.heard + 1 → R (takeF s m)) (h2 : ∀ s l, R s → (∀ m ∈ l, At L m) → R { s with early := l }) :
    ∀ (l : List Msg) (s : Side), R s → (∀ m ∈ l, At L m) → R (Go.Proofs.drain s l)
  | [], s, h, _ => h2 s [] h fun m hm => (List.not_mem_nil hm).elim
  | m :: r, s, h, hl => by
    unfold Go.Proofs.drain
    split
    · next e => exact drain_keeps R L h1 h2 r _ (h1 s m h (hl m (List.mem_cons_self ..)) e) fun x hx => hl x (List.mem_cons_of_mem _ hx)
    · exact h2 s _ h hl
theorem hear_keeps (R : Side → Prop) (L : List Msg) (h1 : ∀ s m, R s → At L m → m.seq = s.heard + 1 → R (takeF s m)) (h2 : ∀ s l, R s → (∀ m ∈ l, At L m) → R { s with early := l }) (h3 : ∀ s, R s → ∀ m ∈ s.early, At L m)
    {id : Int} {s : Side} {m : Msg} (h : R s) (hm : At L m) (e : hearE id s m = 0) : R (hearS id s m) := by
  have hf : fitsF id s m = true := by
    cases c : fitsF id s m with
    | true => rfl
    | false => simp [hearE, c] at e
  by_cases c1 : m.seq ≤ s.heard
  · rw [(hearS_le hf c1).1]; exact h
  · by_cases c2 : s.heard + 1 < m.seq
    · rw [(hearS_gt hf c2).1]
      rw [(hearS_gt hf c2).2] at e
      cases c : atN s.early m.seq with
      | true => rw [(keep_at c).1]; exact h
      | false =>
        rw [keep_ins c e]
        refine h2 s _ h fun x hx => ?_
        rcases mem_insL hx with rfl | hx
        · exact hm
        · exact h3 s h x hx
    · rw [(hearS_eq hf (by omega)).1]
      exact drain_keeps R L h1 h2 _ _ (h1 s m h hm (by omega)) (h3 s h)
theorem Rel.lhear {s t : Side} {m : Msg} {id : Int} (h : Rel s t) (hm : At s.sent m) (e : hearE id t m = 0) : Rel s (hearS id t m) :=
  hear_keeps (fun t => Rel s t) s.sent (fun _ _ h hm e => h.ltake hm e) (fun _ _ h hl => h.learly hl) (fun _ h => h.et) h hm e
theorem Rel.bhear {s t : Side} {m : Msg} {id : Int} (h : Rel s t) (hm : At t.sent m) (e : hearE id s m = 0) : Rel (hearS id s m) t :=
  hear_keeps (fun s => Rel s t) t.sent (fun _ _ h hm e => h.btake hm e) (fun _ _ h hl => h.bearly hl) (fun _ h => h.es) h hm e
theorem Rel.agree {s t : Side} (h : Rel s t) (h1 : s.heard = t.sent.length) (h2 : t.heard = s.sent.length) : s.state = t.state ∧ s.rcd = t.rcd ∧ s.due = t.due := by
  have e1 : t.sent.drop s.heard.toNat = [] := List.drop_eq_nil_of_le (by omega)
  have e2 : s.sent.drop t.heard.toNat = [] := List.drop_eq_nil_of_le (by omega)
  have hc := h.cls
  unfold kindsP kindsQ at hc
  rw [e1, e2] at hc
  have hd := h.due
  rw [e1] at hd
  refine ⟨eq_tab hc, (h.rcd ?_).symm, hd⟩
  obtain ⟨m, r, a1, _⟩ := h.ask0
  rw [a1, List.length_cons] at h2
  omega
def virt (req id : Int) : Side := ⟨req, id, 2, 0, 0, 0, 0, [], []⟩
theorem rel_ask (id req ptn rc dy : Int) : Rel (askS id req ptn rc dy) (virt req id) := by
  refine ⟨⟨Int.le_refl _, Nat.zero_le _⟩, ⟨Int.le_refl _, Nat.zero_le _⟩, ?_, rfl, fun h => absurd rfl h, ⟨_, [], rfl, rfl⟩, fun m hm _ => ?_, fun m hm => (List.not_mem_nil hm).elim, fun m hm => (List.not_mem_nil hm).elim⟩
  · show (⟨1, 0, [], [1]⟩ : Cls) ∈ tabC
    exact List.mem_cons_self ..
  · rw [List.mem_singleton.1 hm]; rfl
end Go.Il

/- Two partners' sides and the mail between them, one direction of asking. No condition. -/
namespace Go.Il
open Go Go.Ax Go.Tx Go.Proofs
def Upd (l : List Side) (s : Side) (l' : List Side) : Prop := ∀ x, x ∈ l' ↔ x = s ∨ (x ∈ l ∧ key x ≠ key s)
theorem uniq_key {l : List Side} (h : (l.map key).Nodup) {x y : Side} (hx : x ∈ l) (hy : y ∈ l) (e : key x = key y) : x = y := by
  obtain ⟨i, hi, rfl⟩ := List.getElem_of_mem hx
  obtain ⟨j, hj, rfl⟩ := List.getElem_of_mem hy
  unfold List.Nodup at h
  rw [List.pairwise_iff_getElem] at h
  rcases Nat.lt_trichotomy i j with c | c | c
  · exact absurd (by rw [List.getElem_map, List.getElem_map]; exact e) (h i j (by simpa using hi) (by simpa using hj) c)
  · subst c; rfl
  · exact absurd (by rw [List.getElem_map, List.getElem_map]; exact e.symm) (h j i (by simpa using hj) (by simpa using hi) c)
theorem find_mem {l : List Side} (h : (l.map key).Nodup) {x : Side} {r p q : Int} (hx : x ∈ l) (e : key x = (r, p, q)) : findN l r p q < l.length ∧ ∀ d, l.getD (findN l r p q) d = x := by
  have h1 : findN l r p q < l.length := by
    rcases Nat.lt_or_ge (findN l r p q) l.length with c | c
    · exact c
    · have := key_none (l := l) (r := r) (p := p) (q := q) (by have := findN_le l r p q; omega)
      exact absurd (List.mem_map.2 ⟨x, hx, e⟩) this
  refine ⟨h1, fun d => ?_⟩
  rw [List.getD_eq_getElem?_getD, List.getElem?_eq_getElem h1]
  exact uniq_key h (List.getElem_mem _) hx (by rw [e]; exact isSide_iff.1 (findN_at h1))
theorem upd_setL {l : List Side} (h : (l.map key).Nodup) {r p q : Int} {s : Side} (e : key s = (r, p, q)) : Upd l s (setL l (findN l r p q) s) := by
  intro x
  rcases Nat.lt_or_ge (findN l r p q) l.length with c | c
  · rw [setL_lt c]
    have ha : key l[findN l r p q] = (r, p, q) := isSide_iff.1 (findN_at c)
    constructor
    · intro hx
      obtain ⟨j, hj, rfl⟩ := List.getElem_of_mem hx
      rw [List.getElem_set]
      split
      · exact .inl rfl
      · next d =>
        have hj' : j < l.length := by simpa using hj
        refine .inr ⟨List.getElem_mem _, fun f => d ?_⟩
        unfold List.Nodup at h
        rw [List.pairwise_iff_getElem] at h
        rcases Nat.lt_trichotomy (findN l r p q) j with z | z | z
        · exact absurd (by rw [List.getElem_map, List.getElem_map, ha, f, e]) (h _ j (by simpa using c) (by simpa using hj') z)
        · exact z
        · exact absurd (by rw [List.getElem_map, List.getElem_map, ha, f, e]) (h j _ (by simpa using hj') (by simpa using c) z)
    · rintro (rfl | ⟨hx, f⟩)
      · exact List.mem_set c x
      · obtain ⟨j, hj, rfl⟩ := List.getElem_of_mem hx
        have d : findN l r p q ≠ j := fun d => f (by rw [e, ← ha]; simp only [d])
        refine List.mem_iff_getElem.2 ⟨j, by simpa using hj, ?_⟩
        rw [List.getElem_set_ne d]
  · have c' : findN l r p q = l.length := by have := findN_le l r p q; omega
    have hn := key_none c'
    rw [c', setL_end, List.mem_append, List.mem_singleton]
    constructor
    · rintro (hx | rfl)
      · exact .inr ⟨hx, fun f => hn (List.mem_map.2 ⟨x, hx, by rw [f, e]⟩)⟩
      · exact .inl rfl
    · rintro (rfl | ⟨hx, _⟩)
      · exact .inr rfl
      · exact .inl hx
structure Half (X Y : Partner) (mail : List Msg) : Prop where
  bor : ∀ s ∈ X.sides, s.role = 1 → s.ptn = Y.id → (∃ t ∈ Y.sides, key t = (2, X.id, s.req) ∧ Rel s t) ∨ ((∀ t ∈ Y.sides, key t ≠ (2, X.id, s.req)) ∧ Rel s (virt s.req X.id) ∧ ∃ m ∈ mail, s.sent[0]? = some m)
  len : ∀ t ∈ Y.sides, t.role = 2 → t.ptn = X.id → ∃ s ∈ X.sides, key s = (1, Y.id, t.req)
  mlx : ∀ m ∈ mail, (ofF m.kind).role = 1 → m.frm = X.id → ∃ s ∈ X.sides, key s = (1, Y.id, m.req) ∧ At s.sent m
  mly : ∀ m ∈ mail, (ofF m.kind).role = 2 → m.frm = Y.id → ∃ t ∈ Y.sides, key t = (2, X.id, m.req) ∧ At t.sent m
theorem key_eq {s : Side} {r p q : Int} (h1 : s.role = r) (h2 : s.ptn = p) (h3 : s.req = q) : key s = (r, p, q) := by unfold key; rw [h1, h2, h3]
theorem key_val {s : Side} {r p q : Int} (h : key s = (r, p, q)) : s.role = r ∧ s.ptn = p ∧ s.req = q := by simpa [key] using h
theorem Half.bupd {X X' Y : Partner} {mail mail' : List Msg} {s : Side} (h : Half X Y mail) (hid : X'.id = X.id) (hu : Upd X.sides s X'.sides) (hs1 : s.role = 1) (hs2 : s.ptn = Y.id)
    (hb : (∃ t ∈ Y.sides, key t = (2, X.id, s.req) ∧ Rel s t) ∨ ((∀ t ∈ Y.sides, key t ≠ (2, X.id, s.req)) ∧ Rel s (virt s.req X.id) ∧ ∃ m ∈ mail', s.sent[0]? = some m))
    (hsub : ∀ m ∈ mail, m ∈ mail') (hnew : ∀ m ∈ mail', m ∈ mail ∨ (ofF m.kind).role = 1 ∧ m.req = s.req ∧ At s.sent m)
    (hold : ∀ x ∈ X.sides, key x = key s → ∀ m, At x.sent m → At s.sent m) : Half X' Y mail' := by
  have hS : s ∈ X'.sides := (hu s).2 (.inl rfl)
  refine ⟨fun x hx h1 h2 => ?_, fun t ht h1 h2 => ?_, fun m hm h1 h2 => ?_, fun m hm h1 h2 => ?_⟩
  · rw [hid]
    rcases (hu x).1 hx with rfl | ⟨hx, _⟩
    · exact hb
    · rcases h.bor x hx h1 h2 with c | ⟨c1, c2, m, c3, c4⟩
      · exact .inl c
      · exact .inr ⟨c1, c2, m, hsub m c3, c4⟩
  · rw [hid] at h2
    obtain ⟨x, hx, e⟩ := h.len t ht h1 h2
    by_cases c : key x = key s
    · exact ⟨s, hS, by rw [← c]; exact e⟩
    · exact ⟨x, (hu x).2 (.inr ⟨hx, c⟩), e⟩
  · rw [hid] at h2
    rcases hnew m hm with hm | ⟨_, n2, n3⟩
    · obtain ⟨x, hx, e, ha⟩ := h.mlx m hm h1 h2
      by_cases c : key x = key s
      · exact ⟨s, hS, by rw [← c]; exact e, hold x hx c m ha⟩
      · exact ⟨x, (hu x).2 (.inr ⟨hx, c⟩), e, ha⟩
    · exact ⟨s, hS, key_eq hs1 hs2 n2.symm, n3⟩
  · rw [hid]
    rcases hnew m hm with hm | ⟨n1, _, _⟩
    · exact h.mly m hm h1 h2
    · rw [h1] at n1; exact absurd n1 (show ¬ (2 : Int) = 1 by decide)
theorem Half.lupd {X Y Y' : Partner} {mail mail' : List Msg} {s t : Side} (h : Half X Y mail) (hX : (X.sides.map key).Nodup) (hid : Y'.id = Y.id) (hu : Upd Y.sides t Y'.sides) (ht1 : t.role = 2) (ht2 : t.ptn = X.id)
    (hs : s ∈ X.sides) (hks : key s = (1, Y.id, t.req)) (hr : Rel s t)
    (hsub : ∀ m ∈ mail, m ∈ mail') (hnew : ∀ m ∈ mail', m ∈ mail ∨ (ofF m.kind).role = 2 ∧ m.req = t.req ∧ At t.sent m)
    (hold : ∀ x ∈ Y.sides, key x = key t → ∀ m, At x.sent m → At t.sent m) : Half X Y' mail' := by
  have hT : t ∈ Y'.sides := (hu t).2 (.inl rfl)
  have hkt : key t = (2, X.id, t.req) := key_eq ht1 ht2 rfl
  refine ⟨fun x hx h1 h2 => ?_, fun t' ht h1 h2 => ?_, fun m hm h1 h2 => ?_, fun m hm h1 h2 => ?_⟩
  · rw [hid] at h2
    by_cases c : x.req = t.req
    · have : x = s := uniq_key hX hx hs (by rw [hks]; exact key_eq h1 h2 c)
      subst this
      exact .inl ⟨t, hT, by rw [hkt, c], hr⟩
    · rcases h.bor x hx h1 h2 with ⟨t', c1, c2, c3⟩ | ⟨c1, c2, m, c3, c4⟩
      · exact .inl ⟨t', (hu t').2 (.inr ⟨c1, fun f => c (by rw [c2, hkt] at f; simpa using f)⟩), c2, c3⟩
      · refine .inr ⟨fun y hy f => ?_, c2, m, hsub m c3, c4⟩
        rcases (hu y).1 hy with rfl | ⟨hy, _⟩
        · rw [hkt] at f; exact c (by simpa using f.symm)
        · exact c1 y hy f
  · rw [hid]
    rcases (hu t').1 ht with rfl | ⟨ht, _⟩
    · exact ⟨s, hs, hks⟩
    · exact h.len t' ht h1 h2
  · rw [hid]
    rcases hnew m hm with hm | ⟨n1, _, _⟩
    · exact h.mlx m hm h1 h2
    · rw [h1] at n1; exact absurd n1 (show ¬ (1 : Int) = 2 by decide)
  · rw [hid] at h2
    rcases hnew m hm with hm | ⟨_, n2, n3⟩
    · obtain ⟨x, hx, e, ha⟩ := h.mly m hm h1 h2
      by_cases c : key x = key t
      · exact ⟨t, hT, by rw [← c]; exact e, hold x hx c m ha⟩
      · exact ⟨x, (hu x).2 (.inr ⟨hx, c⟩), e, ha⟩
    · exact ⟨t, hT, by rw [hkt, n2], n3⟩
/-- A lender's side of the one who asks here. -/
theorem Half.sameX {X X' Y : Partner} {mail mail' : List Msg} {s : Side} (h : Half X Y mail) (hid : X'.id = X.id) (hu : Upd X.sides s X'.sides) (hs1 : s.role = 2)
    (hsub : ∀ m ∈ mail, m ∈ mail') (hnew : ∀ m ∈ mail', m ∈ mail ∨ (ofF m.kind).role = 2 ∧ m.frm ≠ Y.id) : Half X' Y mail' := by
  have hn : ∀ x, x ∈ X.sides → ∀ p q, key x = (1, p, q) → x ∈ X'.sides := fun x hx p q e => (hu x).2 (.inr ⟨hx, fun f => by
    rw [e] at f
    have := (key_val f.symm).1
    omega⟩)
  refine ⟨fun x hx h1 h2 => ?_, fun t ht h1 h2 => ?_, fun m hm h1 h2 => ?_, fun m hm h1 h2 => ?_⟩
  · rw [hid]
    rcases (hu x).1 hx with rfl | ⟨hx, _⟩
    · omega
    · rcases h.bor x hx h1 h2 with c | ⟨c1, c2, m, c3, c4⟩
      · exact .inl c
      · exact .inr ⟨c1, c2, m, hsub m c3, c4⟩
  · rw [hid] at h2
    obtain ⟨x, hx, e⟩ := h.len t ht h1 h2
    exact ⟨x, hn x hx _ _ e, e⟩
  · rw [hid] at h2
    rcases hnew m hm with hm | ⟨n1, _⟩
    · obtain ⟨x, hx, e, ha⟩ := h.mlx m hm h1 h2
      exact ⟨x, hn x hx _ _ e, e, ha⟩
    · omega
  · rw [hid]
    rcases hnew m hm with hm | ⟨_, n2⟩
    · exact h.mly m hm h1 h2
    · exact absurd h2 n2
/-- A borrower's side of the one who is asked here. -/
theorem Half.sameY {X Y Y' : Partner} {mail mail' : List Msg} {s : Side} (h : Half X Y mail) (hid : Y'.id = Y.id) (hu : Upd Y.sides s Y'.sides) (hs1 : s.role = 1)
    (hsub : ∀ m ∈ mail, m ∈ mail') (hnew : ∀ m ∈ mail', m ∈ mail ∨ (ofF m.kind).role = 1 ∧ m.frm ≠ X.id) : Half X Y' mail' := by
  have hn : ∀ x, x ∈ Y.sides → ∀ p q, key x = (2, p, q) → x ∈ Y'.sides := fun x hx p q e => (hu x).2 (.inr ⟨hx, fun f => by
    rw [e] at f
    have := (key_val f.symm).1
    omega⟩)
  refine ⟨fun x hx h1 h2 => ?_, fun t ht h1 h2 => ?_, fun m hm h1 h2 => ?_, fun m hm h1 h2 => ?_⟩
  · rw [hid] at h2
    rcases h.bor x hx h1 h2 with ⟨t, c1, c2, c3⟩ | ⟨c1, c2, m, c3, c4⟩
    · exact .inl ⟨t, hn t c1 _ _ c2, c2, c3⟩
    · refine .inr ⟨fun y hy f => ?_, c2, m, hsub m c3, c4⟩
      rcases (hu y).1 hy with rfl | ⟨hy, _⟩
      · have := (key_val f).1; omega
      · exact c1 y hy f
  · rw [hid]
    rcases (hu t).1 ht with rfl | ⟨ht, _⟩
    · omega
    · exact h.len t ht h1 h2
  · rw [hid]
    rcases hnew m hm with hm | ⟨_, n2⟩
    · exact h.mlx m hm h1 h2
    · exact absurd h2 n2
  · rw [hid] at h2
    rcases hnew m hm with hm | ⟨n1, _⟩
    · obtain ⟨x, hx, e, ha⟩ := h.mly m hm h1 h2
      exact ⟨x, hn x hx _ _ e, e, ha⟩
    · omega
theorem Half.less {X Y : Partner} {mail mail' : List Msg} (h : Half X Y mail) (hsub : ∀ m ∈ mail', m ∈ mail)
    (hk : ∀ s ∈ X.sides, s.role = 1 → s.ptn = Y.id → (∀ t ∈ Y.sides, key t ≠ (2, X.id, s.req)) → ∀ m ∈ mail, s.sent[0]? = some m → m ∈ mail') : Half X Y mail' := by
  refine ⟨fun x hx h1 h2 => ?_, h.len, fun m hm => h.mlx m (hsub m hm), fun m hm => h.mly m (hsub m hm)⟩
  rcases h.bor x hx h1 h2 with c | ⟨c1, c2, m, c3, c4⟩
  · exact .inl c
  · exact .inr ⟨c1, c2, m, hk x hx h1 h2 c1 m c3 c4, c4⟩
end Go.Il

/- Two partners and the mail between them: what stays true whatever they do, and that they agree when no mail is left. No condition. -/
namespace Go.Il
open Go Go.Ax Go.Tx Go.Proofs
structure Inv (A B : Partner) (mail : List Msg) : Prop where
  pa : PV A
  pb : PV B
  ne : A.id ≠ B.id
  sa : ∀ s ∈ A.sides, SmN s
  sb : ∀ s ∈ B.sides, SmN s
  ab : Half A B mail
  ba : Half B A mail
  mv : ∀ m ∈ mail, msgF m = 0 ∧ m.note.length ≤ 100 ∧ (m.frm = A.id ∧ m.dst = B.id ∨ m.frm = B.id ∧ m.dst = A.id)
theorem Inv.symm {A B : Partner} {mail : List Msg} (h : Inv A B mail) : Inv B A mail :=
  ⟨h.pb, h.pa, fun e => h.ne e.symm, h.sb, h.sa, h.ba, h.ab, fun m hm => ⟨(h.mv m hm).1, (h.mv m hm).2.1, (h.mv m hm).2.2.symm⟩⟩
theorem mem_upd {l l' : List Side} {s : Side} (hu : Upd l s l') {P : Side → Prop} (hs : P s) (hl : ∀ x ∈ l, P x) : ∀ x ∈ l', P x := fun x hx => by
  rcases (hu x).1 hx with rfl | ⟨hx, _⟩
  · exact hs
  · exact hl x hx
theorem role_12 {k : Int} (h : (ofF k).role ≠ 0) : (ofF k).role = 1 ∨ (ofF k).role = 2 := by
  rcases of_cases k with ⟨e, _⟩ | h1
  · exact absurd (by rw [e]; rfl) h
  · rcases h1 with rfl | rfl | rfl | rfl | rfl | rfl | rfl | rfl | rfl | rfl | rfl <;> decide
theorem Inv.ask {A B : Partner} {mail : List Msg} (h : Inv A B mail) {rc dy : Int} (e : pAskE A B.id rc dy = 0) : Inv (pAskP A B.id rc dy) B (mail ++ [pAskM A B.id rc dy]) := by
  obtain ⟨v1, v2, v3, v4⟩ := pask_right h.pa e
  have hid : (pAskP A B.id rc dy).id = A.id := by rw [v3]
  have hsd : (pAskP A B.id rc dy).sides = A.sides ++ [askS A.id A.next B.id rc dy] := by rw [v3]
  have hno : ∀ x ∈ A.sides, key x ≠ (1, B.id, A.next) := fun x hx f => by
    have := ((check_iff _ _ _).1 (h.pa.chk x hx)).2.2.1
    obtain ⟨a, _, c⟩ := key_val f
    exact this ⟨a, by omega⟩
  have hks : key (askS A.id A.next B.id rc dy) = (1, B.id, A.next) := rfl
  have hu : Upd A.sides (askS A.id A.next B.id rc dy) (pAskP A B.id rc dy).sides := fun x => by
    rw [hsd, List.mem_append, List.mem_singleton, hks]
    exact ⟨fun c => c.elim (fun c => .inr ⟨c, hno x c⟩) .inl, fun c => c.elim .inr fun c => .inl c.1⟩
  have e0 : askE A.id A.next B.id rc dy = 0 := by
    unfold pAskE at e
    by_cases c : askE A.id A.next B.id rc dy = 0
    · exact c
    · rw [decide_eq_true (show askE A.id A.next B.id rc dy ≠ 0 from c)] at e; exact e
  have hsm : SmN (askS A.id A.next B.id rc dy) := by
    have := (ask_right _ _ _ _ _ e0).2.2.2
    rwa [show askR A.id A.next B.id rc dy = askS A.id A.next B.id rc dy by unfold askR; rw [decide_eq_true e0]; rfl] at this
  have hmid : ∀ m ∈ mail ++ [pAskM A B.id rc dy], m ∈ mail ∨ m = askM A.id A.next B.id rc dy := fun m hm => by
    rw [v4] at hm; rcases List.mem_append.1 hm with hm | hm
    · exact .inl hm
    · exact .inr (List.mem_singleton.1 hm)
  refine ⟨v1, h.pb, by rw [hid]; exact h.ne, mem_upd hu hsm h.sa, h.sb, ?_, ?_, fun m hm => ?_⟩
  · refine h.ab.bupd hid hu rfl rfl (.inr ⟨fun t ht f => ?_, rel_ask _ _ _ _ _, askM A.id A.next B.id rc dy, by rw [v4]; exact List.mem_append_right _ (List.mem_singleton.2 rfl), rfl⟩) (fun m hm => List.mem_append_left _ hm) (fun m hm => ?_) (fun x hx f => absurd (by rw [f]; exact hks) (hno x hx))
    · obtain ⟨a, b, c⟩ := key_val f
      obtain ⟨s, hs, g⟩ := h.ab.len t ht a b
      rw [c] at g
      exact hno s hs g
    · rcases hmid m hm with hm | rfl
      · exact .inl hm
      · exact .inr ⟨rfl, rfl, show (1 : Int) ≤ 1 by decide, rfl⟩
  · refine h.ba.sameY hid hu rfl (fun m hm => List.mem_append_left _ hm) fun m hm => ?_
    rcases hmid m hm with hm | rfl
    · exact .inl hm
    · exact .inr ⟨rfl, h.ne⟩
  · rw [hid]
    rcases hmid m hm with hm | rfl
    · exact h.mv m hm
    · refine ⟨by rw [v4] at v2; exact v2, Nat.zero_le _, .inl ⟨rfl, rfl⟩⟩
theorem say_err {id : Int} {s : Side} {kind day : Int} {note : List UInt8} (h : sayE id s kind day note = 0) : msgF (sayM id s kind day note) = 0 := by
  rw [sayE, say_allow h, Bool.not_true, cond_false] at h
  by_cases c : 99 ≤ s.sent.length
  · rw [decide_eq_true c] at h; cases h
  · rw [decide_eq_false c] at h; exact h
theorem Inv.say {A B : Partner} {mail : List Msg} (h : Inv A B mail) {req kind dy : Int} (e : pSayE A B.id req kind dy [] = 0) : Inv (pSayP A B.id req kind dy []) B (mail ++ [pSayM A B.id req kind dy []]) := by
  obtain ⟨v1, v2, v3⟩ := psay_right h.pa h.sa (Nat.zero_le _) e
  obtain ⟨hi, e1, hk, e0⟩ := psay_of e
  have v4 : pSayM A B.id req kind dy [] = sayM A.id (sayAt A B.id req kind) kind dy [] := by unfold pSayM; rw [decide_eq_true e]; rfl
  have hid : (pSayP A B.id req kind dy []).id = A.id := by rw [v2]; rfl
  have hsd : (pSayP A B.id req kind dy []).sides = setL A.sides (sayI A B.id req kind) (sayS A.id (sayAt A B.id req kind) kind dy []) := by rw [v2]; rfl
  have hmem : sayAt A B.id req kind ∈ A.sides := by rw [e1]; exact List.getElem_mem _
  rw [← e1] at hk
  revert v3 v4 hsd hmem hk e0
  generalize hs0 : sayAt A B.id req kind = s0
  intro v3 hk e0 v4 hsd hmem
  have hks : key (sayS A.id s0 kind dy []) = ((ofF kind).role, B.id, req) := hk
  have hu : Upd A.sides (sayS A.id s0 kind dy []) (pSayP A B.id req kind dy []).sides := by rw [hsd]; exact upd_setL h.pa.uniq hks
  obtain ⟨k1, k2, k3⟩ := key_val hk
  have hr0 : (ofF kind).role ≠ 0 := fun c => by unfold pSayE at e; rw [decide_eq_true c] at e; cases e
  have hmid : ∀ m ∈ mail ++ [pSayM A B.id req kind dy []], m ∈ mail ∨ m = sayM A.id s0 kind dy [] := fun m hm => by
    rw [v4] at hm; rcases List.mem_append.1 hm with hm | hm
    · exact .inl hm
    · exact .inr (List.mem_singleton.1 hm)
  have hat : At (sayS A.id s0 kind dy []).sent (sayM A.id s0 kind dy []) := by
    refine ⟨show (1 : Int) ≤ s0.sent.length + 1 by omega, ?_⟩
    show (s0.sent ++ [sayM A.id s0 kind dy []])[((s0.sent.length : Int) + 1 - 1).toNat]? = _
    rw [show ((s0.sent.length : Int) + 1 - 1).toNat = s0.sent.length by omega]
    simp
  have hold : ∀ x ∈ A.sides, key x = key (sayS A.id s0 kind dy []) → ∀ m, At x.sent m → At (sayS A.id s0 kind dy []).sent m := fun x hx f m hm => by
    have : x = s0 := uniq_key h.pa.uniq hx hmem f
    subst this
    exact hm.app _
  have hmv : ∀ m ∈ mail ++ [pSayM A B.id req kind dy []], msgF m = 0 ∧ m.note.length ≤ 100 ∧ (m.frm = A.id ∧ m.dst = B.id ∨ m.frm = B.id ∧ m.dst = A.id) := fun m hm => by
    rcases hmid m hm with hm | rfl
    · exact h.mv m hm
    · exact ⟨say_err e0, Nat.zero_le _, .inl ⟨rfl, k2⟩⟩
  rcases role_12 hr0 with hr | hr
  · refine ⟨v1, h.pb, by rw [hid]; exact h.ne, mem_upd hu v3 h.sa, h.sb, ?_, ?_, by rw [hid]; exact hmv⟩
    · refine h.ab.bupd hid hu (k1.trans hr) k2 ?_ (fun m hm => List.mem_append_left _ hm) (fun m hm => ?_) hold
      · rcases h.ab.bor s0 hmem (k1.trans hr) k2 with ⟨t, c1, c2, c3⟩ | ⟨c1, c2, m, c3, c4⟩
        · exact .inl ⟨t, c1, c2, c3.bsay (k1.trans hr) e0⟩
        · refine .inr ⟨c1, c2.bsay (k1.trans hr) e0, m, List.mem_append_left _ c3, ?_⟩
          show (s0.sent ++ [_])[0]? = _
          rw [List.getElem?_append_left (List.getElem?_eq_some_iff.1 c4).1]; exact c4
      · rcases hmid m hm with hm | rfl
        · exact .inl hm
        · exact .inr ⟨hr, rfl, hat⟩
    · refine h.ba.sameY hid hu (k1.trans hr) (fun m hm => List.mem_append_left _ hm) fun m hm => ?_
      rcases hmid m hm with hm | rfl
      · exact .inl hm
      · exact .inr ⟨hr, h.ne⟩
  · refine ⟨v1, h.pb, by rw [hid]; exact h.ne, mem_upd hu v3 h.sa, h.sb, ?_, ?_, by rw [hid]; exact hmv⟩
    · refine h.ab.sameX hid hu (k1.trans hr) (fun m hm => List.mem_append_left _ hm) fun m hm => ?_
      rcases hmid m hm with hm | rfl
      · exact .inl hm
      · exact .inr ⟨hr, h.ne⟩
    · obtain ⟨s, hs, hs2⟩ := h.ba.len s0 hmem (k1.trans hr) k2
      obtain ⟨j1, j2, j3⟩ := key_val hs2
      refine h.ba.lupd h.pb.uniq hid hu (k1.trans hr) k2 hs hs2 ?_ (fun m hm => List.mem_append_left _ hm) (fun m hm => ?_) hold
      · rcases h.ba.bor s hs j1 j2 with ⟨t, c1, c2, c3⟩ | ⟨c1, _⟩
        · have : t = s0 := uniq_key h.pa.uniq c1 hmem (by rw [c2, j3]; exact (key_eq (k1.trans hr) k2 rfl).symm)
          subst this
          exact c3.lsay (k1.trans hr) e0
        · exact absurd (by rw [j3]; exact key_eq (k1.trans hr) k2 rfl) (c1 s0 hmem)
      · rcases hmid m hm with hm | rfl
        · exact .inl hm
        · exact .inr ⟨hr, rfl, hat⟩
theorem msg_role {m : Msg} (h : msgF m = 0) : (ofF m.kind).role = 1 ∨ (ofF m.kind).role = 2 := by
  obtain ⟨_, _, _, _, _, ⟨h1, h2⟩, _⟩ := msg_val h
  rcases of_cases m.kind with ⟨_, e⟩ | h3
  · omega
  · rcases h3 with e | e | e | e | e | e | e | e | e | e | e <;> rw [e] <;> decide
/-- What a partner's hearing leaves true, before the mail is looked at; and that the asked one's side is there then. -/
theorem Inv.hear {A B : Partner} {mail : List Msg} (h : Inv A B mail) {m : Msg} (hm : m ∈ mail) (hd : m.dst = A.id) (e : pHearE A m = 0) :
    Inv (pHearP A m) B mail ∧ ∃ t ∈ (pHearP A m).sides, key t = (3 - (ofF m.kind).role, B.id, m.req) := by
  obtain ⟨w1, w2, w3⟩ := h.mv m hm
  obtain ⟨e0, c1, c2, hk, hc, ha, hb⟩ := phear_of h.pa e
  obtain ⟨v1, v2, v3, v4, v5⟩ := phear_right h.pa h.sa w2 e
  have hfrm : m.frm = B.id := by
    rcases w3 with w3 | w3
    · exact absurd (hd.symm.trans w3.2) h.ne
    · exact w3.1
  have hid : (pHearP A m).id = A.id := by rw [v2]; rfl
  have hsd : (pHearP A m).sides = setL A.sides (hearI A m) (hearS A.id (hearAt A m) m) := by rw [v2]; rfl
  have hu : Upd A.sides (hearS A.id (hearAt A m) m) (pHearP A m).sides := by rw [hsd]; exact upd_setL h.pa.uniq v4
  rw [hfrm] at hk v4
  have hsent : (hearS A.id (hearAt A m) m).sent = (hearAt A m).sent := (hear_right ((check_iff _ _ _).1 hc).1 v3 w2 e0).2.2.1
  have hT : hearS A.id (hearAt A m) m ∈ (pHearP A m).sides := (hu _).2 (.inl rfl)
  refine ⟨?_, _, hT, v4⟩
  obtain ⟨k1, k2, k3⟩ := key_val v4
  have hmv : ∀ m ∈ mail, msgF m = 0 ∧ m.note.length ≤ 100 ∧ (m.frm = (pHearP A m).id ∧ m.dst = B.id ∨ m.frm = B.id ∧ m.dst = (pHearP A m).id) ∨ True := fun _ _ => .inr trivial
  have hold : ∀ x ∈ A.sides, key x = key (hearS A.id (hearAt A m) m) → ∀ n, At x.sent n → At (hearS A.id (hearAt A m) m).sent n := fun x hx f n hn => by
    rw [hsent]
    rcases Nat.lt_or_ge (hearI A m) A.sides.length with d | d
    · have : x = hearAt A m := uniq_key h.pa.uniq hx (by rw [hb d]; exact List.getElem_mem _) (by rw [f, v4, hk])
      subst this; exact hn
    · have h1 : hearI A m = A.sides.length := by have := findN_le A.sides (3 - (ofF m.kind).role) m.frm m.req; unfold hearI at d ⊢; omega
      have := key_none (l := A.sides) h1
      rw [hfrm] at this
      exact absurd (List.mem_map.2 ⟨x, hx, by rw [f, v4]⟩) this
  refine ⟨v1, h.pb, by rw [hid]; exact h.ne, mem_upd hu v5 h.sa, h.sb, ?_, ?_, by rw [hid]; exact h.mv⟩
  · rcases msg_role w1 with hr | hr
    · rw [hr] at k1
      exact h.ab.sameX hid hu k1 (fun _ hm => hm) fun _ hm => .inl hm
    · rw [hr] at k1 hk
      have d : hearI A m < A.sides.length := by
        rcases Nat.lt_or_ge (hearI A m) A.sides.length with d | d
        · exact d
        · have := (ha d).2.2
          unfold openE at this
          rw [decide_eq_true (.inr (.inr (by rw [hr]; decide)))] at this; cases this
      have hmem : hearAt A m ∈ A.sides := by rw [hb d]; exact List.getElem_mem _
      obtain ⟨q1, q2, q3⟩ := key_val hk
      obtain ⟨t, t1, t2, t3⟩ := h.ab.mly m hm hr hfrm
      refine h.ab.bupd hid hu k1 k2 ?_ (fun _ hm => hm) (fun _ hm => .inl hm) hold
      rcases h.ab.bor _ hmem q1 q2 with ⟨t', c1, c2, c3⟩ | ⟨c1, _⟩
      · have : t' = t := uniq_key h.pb.uniq c1 t1 (by rw [c2, t2, q3])
        subst this
        exact .inl ⟨t', c1, by rw [c2, k3, q3], c3.bhear t3 e0⟩
      · exact absurd (by rw [t2, q3]) (c1 t t1)
  · rcases msg_role w1 with hr | hr
    · rw [hr] at k1 hk
      obtain ⟨s, s1, s2, s3⟩ := h.ba.mlx m hm hr hfrm
      obtain ⟨j1, j2, j3⟩ := key_val s2
      refine h.ba.lupd h.pb.uniq hid hu k1 k2 s1 (by rw [s2, k3]) ?_ (fun _ hm => hm) (fun _ hm => .inl hm) hold
      rcases Nat.lt_or_ge (hearI A m) A.sides.length with d | d
      · have hmem : hearAt A m ∈ A.sides := by rw [hb d]; exact List.getElem_mem _
        rcases h.ba.bor s s1 j1 j2 with ⟨t, c1, c2, c3⟩ | ⟨c1, _⟩
        · have : t = hearAt A m := uniq_key h.pa.uniq c1 hmem (by rw [c2, hk, j3]; rfl)
          subst this
          exact c3.lhear s3 e0
        · exact absurd (by rw [hk, j3]; rfl) (c1 _ hmem)
      · have hA := (ha d).2.1
        have h1 : hearI A m = A.sides.length := by have := findN_le A.sides (3 - (ofF m.kind).role) m.frm m.req; unfold hearI at d ⊢; omega
        have hno := key_none (l := A.sides) h1
        rcases h.ba.bor s s1 j1 j2 with ⟨t, c1, c2, _⟩ | ⟨_, c2, _⟩
        · refine absurd (List.mem_map.2 ⟨t, c1, ?_⟩) hno
          rw [c2, hr, hfrm, j3]; rfl
        · have : virt s.req B.id = hearAt A m := by rw [hA, j3, ← hfrm]; rfl
          rw [this] at c2
          exact c2.lhear s3 e0
    · rw [hr] at k1
      exact h.ba.sameY hid hu k1 (fun _ hm => hm) fun _ hm => .inl hm
theorem Inv.less {A B : Partner} {mail mail' : List Msg} (h : Inv A B mail) (hsub : ∀ m ∈ mail', m ∈ mail)
    (h1 : ∀ s ∈ A.sides, s.role = 1 → s.ptn = B.id → (∀ t ∈ B.sides, key t ≠ (2, A.id, s.req)) → ∀ m ∈ mail, s.sent[0]? = some m → m ∈ mail')
    (h2 : ∀ s ∈ B.sides, s.role = 1 → s.ptn = A.id → (∀ t ∈ A.sides, key t ≠ (2, B.id, s.req)) → ∀ m ∈ mail, s.sent[0]? = some m → m ∈ mail') : Inv A B mail' :=
  ⟨h.pa, h.pb, h.ne, h.sa, h.sb, h.ab.less hsub h1, h.ba.less hsub h2, fun m hm => h.mv m (hsub m hm)⟩
theorem sent_first {id next : Int} {s : Side} {m : Msg} (h : checkF id next s = 0) (hm : s.sent[0]? = some m) : m.frm = id ∧ m.req = s.req := by
  obtain ⟨c1, _, _, c4, _⟩ := (check_iff _ _ _).1 h
  refine ⟨c4 m (List.mem_of_getElem? hm), ?_⟩
  obtain ⟨_, _, _, _, _, _, _, _, _, _, c5, _⟩ := side_val c1
  cases e : s.sent with
  | nil => rw [e] at hm; cases hm
  | cons x r =>
    rw [e] at hm c5
    injection hm with hm
    subst hm
    rw [sentL, Bool.and_eq_true, decide_eq_true_eq] at c5
    exact c5.1.2.2.2
theorem Inv.deliver {A B : Partner} {mail mail' : List Msg} (h : Inv A B mail) {m : Msg} (hm : m ∈ mail) (hd : m.dst = A.id) (e : pHearE A m = 0) (hsub : ∀ x ∈ mail', x ∈ mail) (hk : ∀ x ∈ mail, x ≠ m → x ∈ mail') : Inv (pHearP A m) B mail' := by
  obtain ⟨hI, t, ht, hkt⟩ := h.hear hm hd e
  have hfrm : m.frm = B.id := by
    rcases (h.mv m hm).2.2 with w3 | w3
    · exact absurd (hd.symm.trans w3.2) h.ne
    · exact w3.1
  refine hI.less hsub (fun s hs r1 r2 hno x hx hx0 => ?_) fun s hs r1 r2 hno x hx hx0 => ?_
  · refine hk x hx fun f => ?_
    subst f
    have := (sent_first (hI.pa.chk s hs) hx0).1
    exact hI.ne (this.symm.trans hfrm)
  · refine hk x hx fun f => ?_
    subst f
    have h1 := (sent_first (h.pb.chk s hs) hx0).2
    refine hno t ht ?_
    rw [hkt, h1]
    rcases h.ba.bor s hs r1 (r2.trans (by rw [show (pHearP A x).id = A.id by unfold pHearP; rw [decide_eq_true e]; rfl])) with ⟨_, _, _, c⟩ | ⟨_, c, _⟩ <;>
    · obtain ⟨y, r, a1, a2⟩ := c.ask0
      rw [a1] at hx0
      injection hx0 with hx0
      rw [← hx0, a2]; rfl
theorem differ_not {s t : Side} (h : s.heard = t.sent.length → t.heard = s.sent.length → s.state = t.state ∧ s.rcd = t.rcd ∧ s.due = t.due) : differ s t = false := by
  unfold differ
  by_cases c : s.heard = t.sent.length ∧ t.heard = s.sent.length
  · obtain ⟨a, b, d⟩ := h c.1 c.2
    rw [a, b, d]; simp
  · rw [decide_eq_false c]; rfl
theorem Inv.fits {A B : Partner} (h : Inv A B []) : fitsP A B = true := by
  unfold fitsP
  rw [List.all_eq_true]
  intro s hs
  unfold fitAt
  by_cases c : s.ptn = B.id
  · rw [decide_eq_false (fun x => x c), Bool.false_or]
    obtain ⟨_, _, _, _, _, hr, _⟩ := side_val ((check_iff _ _ _).1 (h.pa.chk s hs)).1
    rcases hr with hr | hr
    · rcases h.ab.bor s hs hr c with ⟨t, c1, c2, c3⟩ | ⟨_, _, m, c3, _⟩
      · obtain ⟨f1, f2⟩ := find_mem h.pb.uniq c1 c2
        rw [hr]
        rw [show (3 - 1 : Int) = 2 by decide, f2, decide_eq_true f1, differ_not fun a b => c3.agree a b]; rfl
      · cases c3
    · obtain ⟨s', s1, s2⟩ := h.ba.len s hs hr c
      obtain ⟨j1, j2, j3⟩ := key_val s2
      obtain ⟨f1, f2⟩ := find_mem h.pb.uniq s1 s2
      rcases h.ba.bor s' s1 j1 j2 with ⟨t, c1, c2, c3⟩ | ⟨_, _, m, c3, _⟩
      · have : t = s := uniq_key h.pa.uniq c1 hs (by rw [c2, j3]; exact (key_eq hr c rfl).symm)
        subst this
        rw [hr]
        rw [show (3 - 2 : Int) = 1 by decide, f2, decide_eq_true f1, differ_not fun a b => by
          obtain ⟨x, y, z⟩ := c3.agree b a
          exact ⟨x.symm, y.symm, z.symm⟩]; rfl
      · cases c3
  · rw [decide_eq_true c]; rfl
theorem Inv.agree {A B : Partner} (h : Inv A B []) : agreeF A B = true := by
  unfold agreeF
  rw [h.fits, h.symm.fits, decide_eq_true h.ne]; rfl
theorem inv0 : Inv (newP 1) (newP 2) [] := by
  have n1 : ∀ s, s ∉ (newP 1).sides := fun s hs => List.not_mem_nil hs
  have n2 : ∀ s, s ∉ (newP 2).sides := fun s hs => List.not_mem_nil hs
  exact ⟨newP_right 1 rfl, newP_right 2 rfl, by decide, fun s hs => (n1 s hs).elim, fun s hs => (n2 s hs).elim,
    ⟨fun s hs => (n1 s hs).elim, fun s hs => (n2 s hs).elim, fun m hm => (List.not_mem_nil hm).elim, fun m hm => (List.not_mem_nil hm).elim⟩,
    ⟨fun s hs => (n2 s hs).elim, fun s hs => (n1 s hs).elim, fun m hm => (List.not_mem_nil hm).elim, fun m hm => (List.not_mem_nil hm).elim⟩, fun m hm => (List.not_mem_nil hm).elim⟩
end Go.Il

/- Two partners and their net: what is delivered leaves them as they should be. No condition. -/
namespace Go.Il
open Go Go.Ax Go.Tx Go.Proofs
structure Stp where
  v : Int
  lo : 0 ≤ v
  hi : v ≤ 65535
def Stp.ds (x : Stp) : List D := [.int .u16 x.v]
attribute [push_cast] Stp.ds
theorem Inv.del {A B : Partner} {mail : List Msg} (h : Inv A B mail) (i : Int) (keep : Bool) (e : delE ⟨[A, B], mail⟩ i = 0) :
    ∃ A' B' mail', delN ⟨[A, B], mail⟩ i keep = ⟨[A', B'], mail'⟩ ∧ Inv A' B' mail' ∧ mail'.length ≤ mail.length ∧ A'.id = A.id ∧ B'.id = B.id := by
  unfold delE at e
  by_cases c : 0 ≤ i ∧ i.toNat < mail.length
  · have c' : 0 ≤ i ∧ i.toNat < (⟨[A, B], mail⟩ : Net).mail.length := c
    rw [dif_pos c'] at e
    obtain ⟨m, hm⟩ : ∃ m, m = mail[i.toNat]'c.2 := ⟨_, rfl⟩
    have hm' : (⟨[A, B], mail⟩ : Net).mail[i.toNat]'c'.2 = m := hm.symm
    have hmem : m ∈ mail := by rw [hm]; exact List.getElem_mem _
    have hsub : ∀ x ∈ (bif keep then mail else mail.eraseIdx i.toNat), x ∈ mail := fun x hx => by
      cases keep with
      | true => exact hx
      | false => exact List.mem_of_mem_eraseIdx hx
    have hk : ∀ x ∈ mail, x ≠ m → x ∈ (bif keep then mail else mail.eraseIdx i.toNat) := fun x hx hne => by
      cases keep with
      | true => exact hx
      | false =>
        obtain ⟨j, hj, rfl⟩ := List.getElem_of_mem hx
        exact List.mem_eraseIdx_iff_getElem.2 ⟨j, hj, fun d => hne (by rw [hm]; simp only [d]), rfl⟩
    have hlen : (bif keep then mail else mail.eraseIdx i.toNat).length ≤ mail.length := by
      cases keep with
      | true => exact Nat.le_refl _
      | false => exact List.length_eraseIdx_le ..
    unfold delN
    rw [dif_pos c']
    simp only [hm'] at e ⊢
    rcases (h.mv m hmem).2.2 with ⟨w1, w2⟩ | ⟨w1, w2⟩
    · have ht : toI ⟨[A, B], mail⟩ m = 1 := by
        unfold toI
        rw [List.findIdx_cons, decide_eq_false (fun x => h.ne (x.trans w2)), List.findIdx_cons, decide_eq_true w2.symm]; rfl
      have hl : toI ⟨[A, B], mail⟩ m < (⟨[A, B], mail⟩ : Net).partners.length := by rw [ht]; exact Nat.lt_succ_self 1
      rw [dif_pos hl] at e ⊢
      have hp : (⟨[A, B], mail⟩ : Net).partners[toI ⟨[A, B], mail⟩ m]'hl = B := by simp only [ht]; rfl
      rw [hp] at e ⊢
      rw [decide_eq_true e, ht]
      refine ⟨A, pHearP B m, _, rfl, (h.symm.deliver hmem w2 e hsub hk).symm, hlen, rfl, ?_⟩
      unfold pHearP; rw [decide_eq_true e]; rfl
    · have ht : toI ⟨[A, B], mail⟩ m = 0 := by
        unfold toI
        rw [List.findIdx_cons, decide_eq_true w2.symm]; rfl
      have hl : toI ⟨[A, B], mail⟩ m < (⟨[A, B], mail⟩ : Net).partners.length := by rw [ht]; exact Nat.zero_lt_succ _
      rw [dif_pos hl] at e ⊢
      have hp : (⟨[A, B], mail⟩ : Net).partners[toI ⟨[A, B], mail⟩ m]'hl = A := by simp only [ht]; rfl
      rw [hp] at e ⊢
      rw [decide_eq_true e, ht]
      refine ⟨pHearP A m, B, _, rfl, h.deliver hmem w2 e hsub hk, hlen, ?_, rfl⟩
      unfold pHearP; rw [decide_eq_true e]; rfl
  · have c' : ¬ (0 ≤ i ∧ i.toNat < (⟨[A, B], mail⟩ : Net).mail.length) := c
    rw [dif_neg c'] at e; cases e
end Go.Il
