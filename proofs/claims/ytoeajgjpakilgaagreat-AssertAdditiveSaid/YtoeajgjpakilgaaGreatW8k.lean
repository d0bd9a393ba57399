/-
  The program's Rename, of a ballot, where nothing is wrong.
-/
import Derived.Test.YtoeajgjpakilgaaGreatW8i
import Derived.Test.YtoeajgjpakilgaaGreatW9m
import Derived.Test.YtoeajgjpakilgaaGreatSpecA
namespace Go.Proofs.YtoeajgjpakilgaaGreat
open Go.RowKit Go.Proofs Go.Shelf
attribute [local go_sem] cell?_more cell?_alloc_some cell?_setCell_far frozen?_alloc_some frozen?_more
theorem placeS_at {p : List Int} (hn : p.Nodup) {t : Nat} {v : Int} (hv : p[t]? = some v) : placeS p v 0 = t := by
  suffices h : ∀ (l : List Int) (j : Int) (t : Nat), l.Nodup → l[t]? = some v → placeS l v j = j + t by simpa using h p 0 t hn hv
  intro l
  induction l with
  | nil => intro j t _ h; simp at h
  | cons a r ih =>
    intro j t hnd h
    cases t with
    | zero => simp at h; subst h; simp [placeS]
    | succ t =>
      simp at h
      have hne : a ≠ v := fun e => (List.nodup_cons.1 hnd).1 (by rw [e]; exact List.mem_of_getElem? h)
      unfold placeS
      rw [if_neg hne, ih (j + 1) t (List.nodup_cons.1 hnd).2 h]
      push_cast
      omega
end Go.Proofs.YtoeajgjpakilgaaGreat
