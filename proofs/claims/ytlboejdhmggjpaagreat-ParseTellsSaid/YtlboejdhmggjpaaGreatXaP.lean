import Derived.Test.YtlboejdhmggjpaaGreatXaN
set_option linter.all false
namespace Go.Proofs.YtlboejdhmggjpaaGreat.Pp.Dr
set_option maxRecDepth 100000
set_option maxHeartbeats 800000
open Go.RowKit Go.BigFrame Go.Proofs.YtlboejdhmggjpaaGreat
def Ut(k:Nat):Bs:=(([[44],[124,124],[38,38],[124],[94],[38],[61,61,32,33,61],[60,32,62,32,60,61,32,62,61],[60,60,32,62,62],[43,32,45],[42,32,47,32,37]]:List Bs)).getD k []
theorem aih:∀k<11,wF (Ut k) []=FN k:=by decide+kernel
theorem alv{w:World}(k:Nat)(hk:k<11):Calls Tryz.prog 98 #[.int .i64 k] w fun e w'=>e= .returned (.string (au (Ut k)))∧Below w.heap.size w w':=by
 have:k=0∨k=1∨k=2∨k=3∨k=4∨k=5∨k=6∨k=7∨k=8∨k=9∨k=10:=by omega
 rcases this with rfl|rfl|rfl|rfl|rfl|rfl|rfl|rfl|rfl|rfl|rfl
 all_goals
  go_enter Tryz.func98,Tryz.ntmps98
  go_wp2_with fail
  go_ret;exact⟨rfl,ag _ _⟩
theorem C8{L:List Ct}{i:Nat}(h:bz L i≠0):i<L.length:=by
 unfold bz at h;split at h
 ·assumption
 ·exact absurd rfl h
variable {L : List Ct}{vr : Value}
theorem GB.nR {w:World}{gb:Nat}(hG:GB w gb L vr){i:Nat}(hi:i<L.length):∃b off n lc,L.length=n∧∀w',Below w.heap.size w w'→w'.cell? ⟨gb,0,none⟩=some (.slice (some ⟨b,off,none⟩) n lc)∧w'.cell? ⟨b,off+i*2+1,none⟩=some (.string (au (bM L i))):=by
 obtain⟨la,lc,hbx,hrow,hl⟩:=hG
 obtain⟨b,off,rfl,hb,hc⟩:=hrow.at (by rintro rfl;simp at hi)
 refine⟨b,off,_,lc,rfl,fun w' h=>⟨?_,?_⟩⟩
 ·have:=aF h hbx (ψ.1 hbx).1
  simp[World.cell?,this]
 ·have:=((hc i hi).below h hb) 1 _ rfl
  unfold bM;rw[abN,abE hi];exact this
variable {env : List (List Sd)}{v : Value}
theorem aex {S:Nat→Prop}{w:World}{gb:Nat}(hG:GB w gb L vr)(hv:nZ S w v env)(hl:env.length≤100000)(hd:∀d∈env,d.length≤100000)(i:Nat)(hi:i≤100000)(all:Bool)(hc:bz L i=2):Calls Tryz.prog 132 #[gP gb,v, .int .i64 i, .bool all] w fun e w'=>e= .returned (.bool (iY L env i all))∧Below w.heap.size w w':=by
 have he:iY L env i all=iN env (bM L i):=by unfold iY;rw[ω hc]
 rw[he]
 have zM:=C8 (L:=L) (i:=i) η
 obtain⟨b,off,n,lc,hn,hT⟩:=hG.nR zM
 have hin:i<n:=by omega
 have h2:decide (i<n)=true:=aa4 hin
 have HT:=π hT
 have HV:=π hv
 obtain⟨a,k,c,rfl⟩:=hv.aj
 clear hv hT
 go_enter Tryz.func132,Tryz.ntmps132
 go_wp2_with fail
 refine(lT hG i hi).mono ?_
 rintro e w1 ⟨rfl,hb⟩
 rw[hc]
 obtain⟨c0,d1⟩:=HT.out w1 hb
 have HB:=π hb
 clear hb
 go_wp2_with fail
 refine(PZ (HV.out.to (.below HB.out)) hl hd (bM L i)).mono ?_
 rintro e w2 ⟨rfl,hb2⟩
 have HB2:=π (HB.out.trans (hb2.mono HB.out.size))
 clear hb2 c0 d1
 go_wp2_with fail
 go_ret
 exact⟨rfl,HB2.out⟩
theorem aey {w:World}{gb:Nat}(hG:GB w gb L vr)(hv:∃a k c,v= .slice a k c)(i:Nat)(hi:i≤100000)(all:Bool)(hc2:bz L i≠2)(hc1:bz L i≠1):Calls Tryz.prog 132 #[gP gb,v, .int .i64 i, .bool all] w fun e w'=>e= .returned (.bool (iY L env i all))∧Below w.heap.size w w':=by
 have he:iY L env i all=false:=by unfold iY;rw[χ hc2,ω hc1]
 rw[he]
 obtain⟨a,k,c,rfl⟩:=hv
 obtain⟨z,hz⟩:∃z,bz L i=z:=⟨_,rfl⟩
 rw[hz]at hc2 hc1
 have e1:(z==2)=false:=aat.2 hc2
 have e2:(z !=1)=true:=acm.2 hc1
 go_enter Tryz.func132,Tryz.ntmps132
 go_wp2_with fail
 refine(lT hG i hi).mono ?_
 rintro e w1 ⟨rfl,hb⟩
 rw[hz]
 have HB:=π hb
 have HG:=π (hG.ext hb)
 clear hb
 go_wp2_with fail
 refine(lT HG.out i hi).mono ?_
 rintro e w2 ⟨rfl,hb⟩
 rw[hz]
 have HB2:=π (HB.out.trans (hb.mono HB.out.size))
 clear hb
 go_wp2_with fail
 go_ret
 exact⟨rfl,HB2.out⟩
end Go.Proofs.YtlboejdhmggjpaaGreat.Pp.Dr
