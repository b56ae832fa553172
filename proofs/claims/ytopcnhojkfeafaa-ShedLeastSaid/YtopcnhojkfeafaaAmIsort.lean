/- Wants in order of their units: plain lists. -/
namespace Go.Proofs.Ytopcnhojkfeafaa.Am

def ins (x : Int × Int) : List (Int × Int) → List (Int × Int)
  | [] => [x]
  | y :: l => if x.1 ≤ y.1 then x :: y :: l else y :: ins x l

def isort : List (Int × Int) → List (Int × Int)
  | [] => []
  | x :: l => ins x (isort l)

theorem ins_perm (x : Int × Int) : ∀ l, (ins x l).Perm (x :: l)
  | [] => List.Perm.refl _
  | y :: l => by
    unfold ins
    split
    · exact List.Perm.refl _
    · exact ((ins_perm x l).cons y).trans (List.Perm.swap x y l)

theorem isort_perm : ∀ l, (isort l).Perm l
  | [] => List.Perm.refl _
  | x :: l => (ins_perm x _).trans ((isort_perm l).cons x)

theorem ins_sorted (x : Int × Int) : ∀ l : List (Int × Int), l.Pairwise (fun x y => x.1 ≤ y.1) → (ins x l).Pairwise (fun x y => x.1 ≤ y.1)
  | [], _ => by simp [ins]
  | y :: l, h => by
    rw [List.pairwise_cons] at h
    unfold ins
    split
    · rename_i hxy
      rw [List.pairwise_cons]
      refine ⟨fun z hz => ?_, by rw [List.pairwise_cons]; exact h⟩
      rcases List.mem_cons.1 hz with rfl | hz
      · exact hxy
      · exact Int.le_trans hxy (h.1 z hz)
    · rename_i hxy
      rw [List.pairwise_cons]
      refine ⟨fun z hz => ?_, ins_sorted x l h.2⟩
      rcases List.mem_cons.1 ((ins_perm x l).mem_iff.1 hz) with rfl | hz
      · omega
      · exact h.1 z hz

theorem isort_sorted : ∀ l : List (Int × Int), (isort l).Pairwise (fun x y => x.1 ≤ y.1)
  | [] => by simp [isort]
  | x :: l => ins_sorted x _ (isort_sorted l)

theorem key_inj {l : List (Int × Int)} (hn : (l.map (·.1)).Nodup) : ∀ {a b : Int × Int}, a ∈ l → b ∈ l → a.1 = b.1 → a = b := by
  induction l with
  | nil => intro a b ha; simp at ha
  | cons x l ih =>
    intro a b ha hb e
    simp only [List.map_cons, List.nodup_cons] at hn
    rcases List.mem_cons.1 ha with ka | ka <;> rcases List.mem_cons.1 hb with kb | kb
    · rw [ka, kb]
    · exact absurd (List.mem_map_of_mem (f := (·.1)) kb) (by rw [← e, ka]; exact hn.1)
    · exact absurd (List.mem_map_of_mem (f := (·.1)) ka) (by rw [e, kb]; exact hn.1)
    · exact ih hn.2 ka kb e

theorem isort_unique {d d' : List (Int × Int)} (hn : (d.map (·.1)).Nodup) (hp : d'.Perm d) (hs : d'.Pairwise (fun x y => x.1 ≤ y.1)) : d' = isort d := by
  refine List.Perm.eq_of_pairwise (le := fun x y => x.1 ≤ y.1) (fun a b ha hb h1 h2 => ?_) hs (isort_sorted d) (hp.trans (isort_perm d).symm)
  exact key_inj hn (hp.mem_iff.1 ha) ((isort_perm d).mem_iff.1 hb) (by omega)

theorem isort_length (l : List (Int × Int)) : (isort l).length = l.length := (isort_perm l).length_eq

end Go.Proofs.Ytopcnhojkfeafaa.Am
