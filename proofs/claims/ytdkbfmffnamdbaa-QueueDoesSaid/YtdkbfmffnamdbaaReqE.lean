/- The statement RequestStays: the plain laws, the example. No condition. -/
import Derived.Test.YtdkbfmffnamdbaaReqD
set_option linter.unusedVariables false
set_option linter.unusedSimpArgs false
namespace Go.Proofs.Ytdkbfmffnamdbaa
open Go.RowKit (wrap32 wrap64)
open Go.RowKit
def outT (tx : Int) (L : List Wt) : List Wt := L.filter fun x => !ofTx tx x
theorem outT_mem (tx : Int) (L : List Wt) : ∀ y ∈ outT tx L, ofTx tx y = false := fun y hy => by
  have := (List.mem_filter.1 hy).2
  simpa using this
theorem rightW_out (tx : Int) (L : List Wt) (h : RightW L) : RightW (outT tx L) :=
  ⟨fun x hx => h.1 x (List.mem_filter.1 hx).1, h.2.1.filter _, h.2.2.filter _⟩
theorem find_out (tx : Int) (L : List Wt) : idxB (ofTx tx) (outT tx L) = -1 := idxB_miss _ _ (outT_mem tx L)
theorem insT_len (x : Wt) (L : List Wt) : (insT x L).length = L.length + 1 := by
  unfold insT
  have := placeT_le L x.conv
  simp
  omega
theorem insT_mem (x : Wt) (L : List Wt) : ∀ y ∈ insT x L, y = x ∨ (y ∈ L) := by
  intro y hy
  unfold insT at hy
  rcases List.mem_append.1 hy with hy | hy
  · rcases List.mem_append.1 hy with hy | hy
    · exact .inr (List.mem_of_mem_take hy)
    · exact .inl (List.mem_singleton.1 hy)
  · exact .inr (List.mem_of_mem_drop hy)
theorem out_ins (x : Wt) (L : List Wt) (h : ∀ y ∈ L, ofTx x.tx y = false) : outT x.tx (insT x L) = L := by
  unfold outT insT
  rw [List.filter_append, List.filter_append]
  have e1 : ∀ M : List Wt, (∀ y ∈ M, y ∈ L) → (M.filter fun y => !ofTx x.tx y) = M := fun M hM => List.filter_eq_self.2 (fun y hy => by rw [h y (hM y hy)]; rfl)
  rw [e1 _ (fun y hy => List.mem_of_mem_take hy), e1 _ (fun y hy => List.mem_of_mem_drop hy)]
  have e2 : ([x].filter fun y => !ofTx x.tx y) = [] := by unfold ofTx; simp
  rw [e2, List.append_nil, List.take_append_drop]
theorem rightW_ins (x : Wt) (L : List Wt) (h : RightW L) (hx : okReq x) (hn : ∀ y ∈ L, ofTx x.tx y = false) : RightW (insT x L) := by
  have hne : ∀ y ∈ L, y.tx ≠ x.tx := fun y hy => by
    have := hn y hy
    unfold ofTx at this
    exact beq_eq_false_iff_ne.1 this
  have hp1 : (L.take (placeT L x.conv) ++ L.drop (placeT L x.conv)).Pairwise fun a b => a.tx ≠ b.tx := by rw [List.take_append_drop]; exact h.2.1
  have hp2 : (L.take (placeT L x.conv) ++ L.drop (placeT L x.conv)).Pairwise fun a b => b.conv = true → a.conv = true := by rw [List.take_append_drop]; exact h.2.2
  have hcv : x.conv = true → ∀ y ∈ L.take (placeT L x.conv), y.conv = true := fun hc => by
    unfold placeT
    rw [if_pos hc]
    exact lastC_conv L h.2.2
  have hdr : x.conv = false → L.drop (placeT L x.conv) = [] := fun hc => by
    unfold placeT
    rw [hc, if_neg (by simp), List.drop_length]
  rw [List.pairwise_append] at hp1 hp2
  refine ⟨fun y hy => ?_, ?_, ?_⟩
  · rcases insT_mem x L y hy with rfl | hy
    · exact hx
    · exact h.1 y hy
  · unfold insT
    rw [List.append_assoc, List.pairwise_append]
    refine ⟨hp1.1, ?_, ?_⟩
    · rw [List.singleton_append, List.pairwise_cons]
      exact ⟨fun b hb => (hne b (List.mem_of_mem_drop hb)).symm, hp1.2.1⟩
    · intro a ha b hb
      rcases List.mem_append.1 hb with hb | hb
      · rw [List.mem_singleton.1 hb]; exact hne a (List.mem_of_mem_take ha)
      · exact hp1.2.2 a ha b hb
  · unfold insT
    rw [List.append_assoc, List.pairwise_append]
    refine ⟨hp2.1, ?_, ?_⟩
    · rw [List.singleton_append, List.pairwise_cons]
      refine ⟨fun b hb _ => ?_, hp2.2.1⟩
      cases hc : x.conv with
      | true => rfl
      | false => rw [hdr hc] at hb; cases hb
    · intro a ha b hb hbc
      rcases List.mem_append.1 hb with hb | hb
      · rw [List.mem_singleton.1 hb] at hbc; exact hcv hbc a ha
      · exact hp2.2.2 a ha b hb hbc
end Go.Proofs.Ytdkbfmffnamdbaa
