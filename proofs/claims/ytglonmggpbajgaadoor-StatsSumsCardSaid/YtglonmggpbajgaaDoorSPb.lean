/- Part of a proof about this program; no condition of its own. -/
import Derived.Test.YtglonmggpbajgaaDoorSPa
import Derived.Test.YtglonmggpbajgaaDoorGyF
import Derived.Test.YtglonmggpbajgaaDoorGxR
set_option linter.all false
/- slices.Chunk over a list of integers: its parts, and its iterator as a sequence that may stop. -/
namespace Go.Proofs
open Go Go.Ax Go.Sd
theorem dr_parts {V : Vw} {cells : List Int} {v : Value} {R K : Nat} (h : Dr V (.lst 1 (cells.map iD)) v) (hc : cells.length = R * K) (hpos : 0 < R * K) :
    ∃ b off cap, v = .slice (some ⟨b, off, none⟩) (R * K) cap ∧ R * K ≤ cap ∧ ∀ V', V.Le V' → ∀ x : Nat, x < R → Dr V' (.lst 1 (((cells.drop (x * K)).take K).map iD)) (.slice (some ⟨b, off + x * K, none⟩) K K) := by
  obtain ⟨A, cap, u, rfl, h1, h2, h3, h4, h5⟩ := dr_lst h
  have hne : cells.map iD ≠ [] := fun e => by
    have := congrArg List.length e
    rw [List.length_map, List.length_nil] at this
    omega
  obtain ⟨ad, rfl, hI, hcell⟩ := h4 hne
  have hsp : ad.spot = none := by
    have h0 := hcell 0 (iD cells[0]) 0 (.int .i64 cells[0]) (by rw [List.getElem?_map, List.getElem?_eq_getElem (by omega)]; rfl) rfl
    unfold cellIn at h0
    split at h0
    · split at h0
      · cases h0
      · next hs => exact (show (ad.add (0 * 1 + 0)).spot = none by simpa using hs)
    · cases h0
  obtain ⟨b, off, sp⟩ := ad
  simp only at hsp hI
  subst hsp
  rw [List.length_map, hc] at h1
  refine ⟨b, off, cap, by rw [List.length_map, hc], h1, fun V' hV x hx => ?_⟩
  have hxK : (x + 1) * K ≤ R * K := Nat.mul_le_mul_right K hx
  rw [Nat.succ_mul] at hxK
  have hlen : (((cells.drop (x * K)).take K).map iD).length = K := by rw [List.length_map, List.length_take, List.length_drop]; omega
  have hat : ∀ (i : Nat) (e : List D), (((cells.drop (x * K)).take K).map iD)[i]? = some e → i < K ∧ (cells.map iD)[x * K + i]? = some e := fun i e hi => by
    have hiK : i < K := by have := getElem?_lt hi; omega
    refine ⟨hiK, ?_⟩
    rw [List.getElem?_map, List.getElem?_take_of_lt hiK, List.getElem?_drop] at hi
    rw [List.getElem?_map]; exact hi
  have hd := Dr.lst (V := V') 1 (((cells.drop (x * K)).take K).map iD) (some ⟨b, off + x * K, none⟩) K (fun i j => u (x * K + i) j) (by omega) (by omega) (fun e he => by
      obtain ⟨n, _, rfl⟩ := List.mem_map.1 he; rfl) (fun _ => ⟨_, rfl, hV.I _ hI, fun i e j c hi hj => ?_⟩) (fun i e j c hi hj => Dr.mono hV (h5 _ e j c (hat i e hi).2 hj))
  · rw [hlen] at hd
    exact hd
  · have := cellIn_le (fun o => hV.H _ o) (hcell _ e j c (hat i e hi).2 hj)
    rw [add_plain] at this ⊢
    rw [show off + x * K + (i * 1 + j) = off + ((x * K + i) * 1 + j) by omega]
    exact this
theorem chunk_seq {R K b off cap Bs Bn : Nat} {w : World} (hK : 1 ≤ K) (hbig : R * K ≤ 4294967296) (hcap : R * K ≤ cap) (hs : Bs < w.heap.size) (hn : Bn < w.heap.size) (hBs : w.cell? ⟨Bs, 0, none⟩ = some (.slice (some ⟨b, off, none⟩) (R * K) cap)) (hBn : w.cell? ⟨Bn, 0, none⟩ = some (.int .i64 K)) :
    SeqStopsK Fence.wide 4 Tryd.prog 51 #[.pointer (some ⟨Bs, 0, none⟩), .pointer (some ⟨Bn, 0, none⟩)] (fun x : Fin R => #[.slice (some ⟨b, off + x.val * K, none⟩) K K]) (KpB Bs Bn) (fun xs => xs = List.finRange R) (fun _ => True) R w := by
  intro l J Jx W hB hJ _ hY h0
  have c1 : W.cell? ⟨Bs, 0, none⟩ = w.cell? ⟨Bs, 0, none⟩ := hB.cell (p := ⟨Bs, 0, none⟩) hs
  have c2 : W.cell? ⟨Bn, 0, none⟩ = w.cell? ⟨Bn, 0, none⟩ := hB.cell (p := ⟨Bn, 0, none⟩) hn
  refine (chunk_in Fence.wide 4 trivial rfl (by decide) l Bs Bn b off R K cap hK hbig hcap J Jx _ hJ (fun pre x W1 h1 h2 => hY pre x W1 h1 h2) W (c1.trans hBs) (c2.trans hBn) h0).mono ?_
  rintro e W' ⟨h1, ⟨ys, h2, h3⟩ | ⟨pre, h2⟩⟩
  · exact ⟨h1, .inl ⟨ys, h2, h3⟩⟩
  · exact ⟨h1, .inr ⟨pre, trivial, h2⟩⟩
end Go.Proofs
