/- Walk of VfsNews. No condition. -/
import Derived.Test.YtpffanfpohajhaaGreatN6
import Derived.Test.YtpffanfpohajhaaGreatN7
namespace Go.Proofs.YtpffanfpohajhaaGreat
open Go Go.MapKept
open Go.RowKit hiding intOf

def OpL.ask (k dir node : Int) : OpL := ⟨k, false, dir, ByteArray.empty, node, 0, ByteArray.empty, ByteArray.empty, Mt.zero, 0, 0⟩

theorem new_img (nodes bytes : Int) : (Fs.new nodes bytes).img = (Rf.new nodes bytes).img := rfl
theorem new_inos (nodes bytes : Int) : InosOk (Fs.new nodes bytes).inos where
  sorted := by simp [Fs.new]
  range := by intro p hp; simp [Fs.new] at hp; subst hp; decide
  few := by simp [Fs.new]
  ents := by intro p hp; simp [Fs.new] at hp; subst hp; exact ⟨by simp [rootIno], by simp [rootIno], by simp [rootIno]⟩
  data := by intro p hp; simp [Fs.new] at hp; subst hp; simp [rootIno]
theorem new_small (nodes bytes : Int) : Small (Rf.new nodes bytes).img.list := ⟨by simp [Rf.new], by intro x hx; simp [Rf.new] at hx; subst hx; simp [rootNode], by intro x hx; simp [Rf.new] at hx; subst hx; simp [rootNode]⟩
theorem new_free (nodes bytes : Int) : freeR (Fs.new nodes bytes) = freeRR (Rf.new nodes bytes) := by simp [freeR, freeRR, Fs.new, Rf.new, bytesR, rootNode]
theorem new_up (nodes bytes : Int) : upR (Fs.new nodes bytes) 1 = upRR (Rf.new nodes bytes) 1 := by
  simp [upR, new_get, rootIno, upRR, findR, Rf.new, rootNode, upL, names]
theorem new_stat (nodes bytes : Int) : statR (Fs.new nodes bytes) 1 = statRR (Rf.new nodes bytes) 1 := by
  simp [statR, new_get, rootIno, statRR, findR, Rf.new, rootNode, linksR, countL, countE]
theorem new_list (nodes bytes : Int) : listR (Fs.new nodes bytes) 1 = (listRR (Rf.new nodes bytes) 1).1 ∧ listErr (Fs.new nodes bytes) 1 = (listRR (Rf.new nodes bytes) 1).2 := by
  simp [listR, listErr, new_get, rootIno, listRR, findR, Rf.new, rootNode]
end Go.Proofs.YtpffanfpohajhaaGreat
