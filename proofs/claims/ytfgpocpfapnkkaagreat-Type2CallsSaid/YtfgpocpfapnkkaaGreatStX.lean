/- stack: what Do leaves keeps its bounds (plain). -/
import Derived.Test.YtfgpocpfapnkkaaGreatStL
import Derived.Test.YtfgpocpfapnkkaaGreatFixM
namespace Go.Proofs.YtfgpocpfapnkkaaGreat
open Go.RowKit
set_option linter.unusedVariables false
set_option linter.unusedSimpArgs false
/-- What holds of a Stack at all times. -/
def OkM (l st : List Int) : Prop := l.length ≤ 48 ∧ (∀ x ∈ l, mayB x = true) ∧ st.length = 32 ∧ ∀ x ∈ st, mayB x = true
theorem outV_may (x : Int) : mayB (outV x) = true := by
  unfold outV
  by_cases h : mayB x = true
  · rw [if_pos h]; exact h
  · rw [if_neg h]; rfl
theorem opV_may (x : Int) (l : List Int) : mayB (opV x l) = true := by
  unfold opV; split
  · exact outV_may x
  · decide
theorem mdV_may (a b c : Int) : mayB (mdV a b c) = true := by
  unfold mdV; split
  · split
    · decide
    · exact outV_may _
  · decide
theorem flagQ_may (b : Bool) : mayB (flagQ b) = true := by cases b <;> decide
theorem rtV_may (x : Int) (h : mayB x = true) : mayB (rtV x) = true := by
  unfold rtV; split
  · decide
  · rename_i h0
    obtain ⟨h1, h2⟩ := may_le h
    unfold rootV
    split
    · rename_i hr
      obtain ⟨r0, r1, r2⟩ := hr.choose_spec
      generalize hr.choose = r at *
      refine may_in ⟨by omega, ?_⟩
      by_cases hb : r ≤ 2147483648
      · exact hb
      · exfalso
        have : (2147483648 : Int) * 2147483648 ≤ r * r := Int.mul_le_mul (by omega) (by omega) (by omega) (by omega)
        omega
    · decide
theorem numF_may (op a b : Int) (ha : mayB a = true) (hop : isNum op) : mayB (numOp op a b).1 = true := by
  obtain ⟨h1, h2⟩ := may_le ha
  unfold numOp
  split
  · show mayB (oneF op a).1 = true
    unfold oneF
    split
    · exact may_in ⟨by simp; omega, by simp; omega⟩
    · split
      · exact may_in ⟨by simp; omega, by simp; omega⟩
      · split
        · exact flagQ_may _
        · exact rtV_may a ha
  · show mayB (twoF op a b).1 = true
    unfold twoF
    repeat' split
    all_goals first | exact opV_may _ _ | exact mdV_may _ _ _ | exact flagQ_may _
theorem mem_getD {l : List Int} {i : Nat} (h : ∀ x ∈ l, mayB x = true) : mayB (l.getD i 0) = true := by
  rw [List.getD_eq_getElem?_getD]
  by_cases hi : i < l.length
  · rw [List.getElem?_eq_getElem hi]; exact h _ (List.getElem_mem hi)
  · rw [List.getElem?_eq_none (by omega)]; decide
theorem roll_len (lo : List Int) (n k : Nat) : (rollL lo n k).length = lo.length := by
  unfold rollL; simp; omega
theorem roll_mem (lo : List Int) (n k : Nat) (x : Int) (h : x ∈ rollL lo n k) : x ∈ lo := by
  unfold rollL at h
  rcases List.mem_append.1 h with h | h
  · exact List.mem_of_mem_take h
  · rcases List.mem_append.1 h with h | h
    · exact List.mem_of_mem_drop (List.mem_of_mem_drop h)
    · exact List.mem_of_mem_drop (List.mem_of_mem_take h)
theorem drawn_may (dr : List Int) : mayB (match dr with | [] => 65536 | d :: _ => 1 + d % 65536) = true := by
  cases dr with
  | nil => decide
  | cons d t => exact may_in ⟨by show -2147483648 ≤ 1 + d % 65536; omega, by show 1 + d % 65536 ≤ 2147483648; omega⟩
theorem okM_app {l st : List Int} {x : Int} (h : l.length < 48) (hm : ∀ y ∈ l, mayB y = true) (hx : mayB x = true) (h3 : st.length = 32) (h4 : ∀ x ∈ st, mayB x = true) : OkM (l ++ [x]) st :=
  ⟨by simp; omega, fun y hy => by rcases List.mem_append.1 hy with g | g; exact hm y g; simp at g; subst g; exact hx, h3, h4⟩
def OkR (r : Int × List Int × List Int × List Int) : Prop := OkM r.2.1 r.2.2.1
theorem OkR.ite {c : Prop} [Decidable c] {a b : Int × List Int × List Int × List Int} (h : c → OkR a) (h' : ¬ c → OkR b) : OkR (if c then a else b) := by
  by_cases hc : c
  · rw [if_pos hc]; exact h hc
  · rw [if_neg hc]; exact h' hc
theorem OkR.mk {e : Int} {l st dr : List Int} (h : OkM l st) : OkR (e, l, st, dr) := h
theorem stepM_ok (op : Int) (lo hi st dr : List Int) (h : OkM (lo ++ hi) st) (hhi : hi.length = needM op) : OkR (stepM op lo hi (lo ++ hi) st dr) := by
  have h0 := h
  obtain ⟨h1, h2, h3, h4⟩ := h
  have hlo : ∀ x ∈ lo, mayB x = true := fun x hx => h2 x (List.mem_append_left _ hx)
  have hhm : ∀ x ∈ hi, mayB x = true := fun x hx => h2 x (List.mem_append_right _ hx)
  have hlen : lo.length + needM op ≤ 48 := by rw [List.length_append] at h1; omega
  have hlow : OkM lo st := ⟨by omega, hlo, h3, h4⟩
  have two : lo.length + 2 ≤ 48 → ∀ x y, mayB x = true → mayB y = true → OkM (lo ++ [x, y]) st := fun hl x y hx hy => ⟨by simp; omega, fun z hz => by
    rcases List.mem_append.1 hz with g | g
    · exact hlo z g
    · simp only [List.mem_cons, List.not_mem_nil, or_false] at g
      rcases g with rfl | rfl
      · exact hx
      · exact hy, h3, h4⟩
  unfold stepM
  refine OkR.ite (fun hnum => ?_) (fun hnn => OkR.ite (fun e => .mk hlow) (fun n1 => OkR.ite (fun e => OkR.ite (fun _ => .mk h0) (fun hc => .mk (two (by omega) _ _ (mem_getD hhm) (mem_getD hhm)))) (fun n2 => OkR.ite (fun e => ?_) (fun n3 => OkR.ite (fun e => ?_) (fun n4 => OkR.ite (fun e => ?_)
    (fun n5 => OkR.ite (fun e => OkR.ite (fun _ => .mk h0) (fun _ => OkR.ite (fun _ => .mk hlow) (fun _ => .mk ?_))) (fun n6 => OkR.ite (fun e => OkR.ite (fun _ => .mk ?_) (fun _ => .mk h0)) (fun n7 => OkR.ite (fun e => ?_) (fun n8 => OkR.ite (fun e => .mk h0) (fun hc => ?_))))))))))
  · have hk : 1 ≤ needM op := by
      rcases hnum with rfl | rfl | rfl | rfl | rfl | rfl | rfl | rfl | rfl | rfl | rfl <;> decide
    exact OkR.ite (fun _ => .mk (okM_app (by omega) hlo (numF_may op _ _ (mem_getD hhm) hnum) h3 h4)) (fun _ => .mk h0)
  · subst e
    have : needM 28 = 2 := by decide
    exact .mk (two (by omega) _ _ (mem_getD hhm) (mem_getD hhm))
  · subst e
    have : needM 22 = 4 := by decide
    exact .mk (okM_app (by omega) hlo (by split <;> exact mem_getD hhm) h3 h4)
  · subst e
    have : needM 29 = 1 := by decide
    exact OkR.ite (fun _ => .mk (okM_app (by omega) hlo (mem_getD hlo) h3 h4)) (fun _ => .mk h0)
  · exact ⟨by rw [roll_len]; omega, fun y hy => hlo y (roll_mem _ _ _ y hy), h3, h4⟩
  · exact ⟨by omega, hlo, by simp [h3], fun y hy => by
      rcases List.mem_or_eq_of_mem_set hy with g | g
      · exact h4 y g
      · subst g; exact mem_getD hhm⟩
  · subst e
    have : needM 21 = 1 := by decide
    exact OkR.ite (fun _ => .mk (okM_app (by omega) hlo (mem_getD h4) h3 h4)) (fun _ => .mk h0)
  · exact .mk (okM_app (by omega) hlo (drawn_may dr) h3 h4)
theorem doM_ok (op : Int) (l st dr : List Int) (h : OkM l st) : OkR (doM op l st dr) := by
  unfold doM
  refine OkR.ite (fun _ => .mk h) (fun hop => OkR.ite (fun _ => .mk h) (fun hn => ?_))
  obtain ⟨lo, hi, rfl, hhi⟩ := split_hi l (needM op) (by omega)
  rw [(take_low lo hi _ hhi).1, (take_low lo hi _ hhi).2]
  exact stepM_ok op lo hi st dr h hhi
end Go.Proofs.YtfgpocpfapnkkaaGreat
