import Derived.Test.YtlboejdhmggjpaaGreatXbS
set_option linter.all false
namespace Go.Proofs.YtlboejdhmggjpaaGreat.Pp
set_option maxRecDepth 100000
set_option maxHeartbeats 16000000
attribute [local go_sem] Az sM Bn st sk sm cc cB wo lv xO Tg.sz sF sG sH sI om List.length_nil sJ qd cond qi qj Nat.zero_mul Nat.add_zero if_true Bool.false_eq_true if_false and_true true_and
variable {l:List Ct} {base:Bs→Bool}
theorem aan{n:Nat}(ih:Ih l base n)(v:Bool):Gd l base n (.size v):=by
 intro sh s hf1 hf2 hT hp
 first
 |obtain rfl:=hf1 rfl
 |obtain rfl:=hf2 _ rfl
 clear hf1 hf2
 simp only[go_sem]at hp
 obtain⟨_,_,_,_,_,_,_⟩:=hp
 rw[run]
 exact VC
def gIC:Tg→Bool
 | .unary=>true
 | .jT=>true
 | .jf _=>true
 | .call=>true
 | .xN=>true
 | .uI=>true
 | .zR=>true
 | .xR=>true
 |_=>false
theorem anQ{n:Nat}(ih:Ih l base n)(tg:Tg)(ht:gIC tg=true):Gd l base n tg:=by
 intro sh s hf1 hf2 hT hp
 cases tg
 all_goals first
  |(cases ht;done)
  |skip
 all_goals
  clear ht
  first
  |obtain rfl:=hf1 rfl
  |obtain rfl:=hf2 _ rfl
  clear hf1 hf2;simp only[go_sem]at hp;obtain⟨_,_,_,_,_,_,_⟩:=hp;rw[run];exact V
end Go.Proofs.YtlboejdhmggjpaaGreat.Pp
